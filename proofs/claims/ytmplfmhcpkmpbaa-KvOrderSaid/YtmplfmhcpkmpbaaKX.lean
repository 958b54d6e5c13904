/- A region with a free order, by what the done operations have left; an own array handed over for good. -/
import Derived.Test.YtmplfmhcpkmpbaaKU
set_option linter.unusedVariables false
set_option linter.unusedSimpArgs false
namespace Go.VL
open Go

/-- The operations that are done are closed: what one waits for is done. -/
def Closed (ops : Array Oper) (L : Nat → Bool) : Prop := ∀ (j : Nat) (o : Oper), ops[j]? = some o → L j = true → ∀ k ∈ edgesOf o, L k = true
theorem vtree_any {C : Ctx} {X : Fx} {ops : Array Oper} {K : Env → Store → Prop} (I : (Nat → Bool) → Env → Store → Prop)
    (hord : ∀ (j : Nat) (o : Oper), ops[j]? = some o → ∀ k ∈ edgesOf o, k < j)
    (hstep : ∀ (i : Nat) (o : Oper), ops[i]? = some o → ∀ L e S, Closed ops L → L i = false → (∀ k ∈ edgesOf o, L k = true) → I L e S → ∀ K' : Env → Store → Prop, (∀ e' S', I (fun k => k == i || L k) e' S' → K' e' S') → vops C X ops.toList K' [o] e S)
    (hend : ∀ L e S, (∀ k, k < ops.size → L k = true) → I L e S → K e S) :
    ∀ (fuel : Nat) (listed : Array Bool) (e : Env) (S : Store), left listed ≤ fuel → listed.size = ops.size → Closed ops (fun k => listed.getD k false) → I (fun k => listed.getD k false) e S → vtree C X ops.toList K (ordTree ops fuel listed) e S := by
  have all_done : ∀ listed : Array Bool, listed.size = ops.size → Region.ready .any ops listed = [] → ∀ k, k < ops.size → listed.getD k false = true := by
    intro listed hsz hr k
    induction k using Nat.strongRecOn with
    | _ k ih =>
      intro hk
      cases hd : listed.getD k false with
      | true => rfl
      | false =>
        have ho : ops[k]? = some ops[k] := Array.getElem?_eq_getElem hk
        have := ready_mem (i := k) ho (by rw [getD_of (by omega) true false]; exact hd) fun j hj => ih j (hord k _ ho j hj) (by have := hord k _ ho j hj; omega)
        rw [hr] at this
        cases this
  intro fuel
  induction fuel with
  | zero =>
    intro listed e S hleft hsz hcl hI
    refine hend _ e S (fun k hk => ?_) hI
    cases hd : listed.getD k false with
    | true => rfl
    | false =>
      have := left_set (listed := listed) (i := k) (by omega) hd
      omega
  | succ fuel ih =>
    intro listed e S hleft hsz hcl hI
    unfold ordTree
    cases hr : Region.ready .any ops listed with
    | nil => exact hend _ e S (all_done listed hsz hr) hI
    | cons i l =>
      have one : ∀ j ∈ Region.ready .any ops listed, vtree C X ops.toList K (.one j (ordTree ops fuel (listed.setIfInBounds j true))) e S := by
        intro j hj
        obtain ⟨o, ho, h1, h2⟩ := mem_ready hj
        have hj' : j < listed.size := by rw [hsz]; exact (Array.getElem?_eq_some_iff.1 ho).1
        have h1' : listed.getD j false = false := by rw [getD_of hj' false true]; exact h1
        have hl := left_set hj' h1'
        have hset : (fun k => (listed.setIfInBounds j true).getD k false) = fun k => k == j || listed.getD k false := by
          funext k
          by_cases hkj : k = j
          · subst hkj
            simp [Array.getD, hj']
          · have : (k == j) = false := by simp [hkj]
            rw [this, Bool.false_or]
            simp only [Array.getD, Array.size_setIfInBounds]
            split
            · rename_i hk
              exact Array.getElem_setIfInBounds_ne hk (Ne.symm hkj)
            · rfl
        show vopsO C X ops.toList _ e S ops.toList[j]?
        have hos : ops.toList[j]? = some o := by rw [Array.getElem?_toList]; exact ho
        rw [hos]
        refine hstep j o ho _ e S hcl h1' h2 hI _ fun e' S' hI' => ih _ e' S' (by omega) (by simpa using hsz) ?_ (by rw [hset]; exact hI')
        rw [hset]
        intro q oq hq hd k hk
        simp only [Bool.or_eq_true, beq_iff_eq] at hd ⊢
        rcases hd with rfl | hd
        · rw [ho] at hq
          injection hq with hq
          subst hq
          exact .inr (h2 k hk)
        · exact .inr (hcl q oq hq hd k hk)
      rw [hr] at one
      have go : ∀ l : List Nat, l ≠ [] → (∀ j ∈ l, vtree C X ops.toList K (.one j (ordTree ops fuel (listed.setIfInBounds j true))) e S) → vtree C X ops.toList K (otAll (fun i => ordTree ops fuel (listed.setIfInBounds i true)) l) e S := by
        intro l
        induction l with
        | nil => intro h; exact absurd rfl h
        | cons j l ihl =>
          intro _ h
          cases l with
          | nil => exact h j List.mem_cons_self
          | cons j2 l2 => exact ⟨h j List.mem_cons_self, ihl (by simp) fun q hq => h q (List.mem_cons_of_mem _ hq)⟩
      exact go (i :: l) (by simp) one
theorem vwp_any {C : Ctx} {X : Fx} {ops : Array Oper} {Q : Post} {n : Nat} {e : Env} {S : Store} (I : (Nat → Bool) → Env → Store → Prop)
    (hord : ∀ (j : Nat) (o : Oper), ops[j]? = some o → ∀ k ∈ edgesOf o, k < j) (h0 : I (fun _ => false) e S)
    (hstep : ∀ (i : Nat) (o : Oper), ops[i]? = some o → ∀ L e S, Closed ops L → L i = false → (∀ k ∈ edgesOf o, L k = true) → I L e S → ∀ K' : Env → Store → Prop, (∀ e' S', I (fun k => k == i || L k) e' S' → K' e' S') → vops C X ops.toList K' [o] e S)
    (hend : ∀ L e S, (∀ k, k < ops.size → L k = true) → I L e S → Q .normal e S) : vwp C X (.region n ops true) Q e S := by
  have hL : (fun k => (Array.replicate ops.size false).getD k false) = fun _ => false := by
    funext k
    simp only [Array.getD]
    split <;> simp
  refine vwp_tree rfl (vtree_any I hord hstep hend ops.size _ e S ?_ (by simp) ?_ ?_)
  · unfold left
    exact Nat.le_trans (List.length_filter_le _ _) (by simp)
  · rw [hL]
    intro j o _ h
    cases h
  · rw [hL]
    exact h0

/-- The environment by what is done: ds lists (slot, operation, value). -/
def envD (ds : List (Nat × Nat × PV)) (L : Nat → Bool) (e0 : Env) : Env := fun t => match ds.find? (fun d => d.1 == t) with
  | some d => if L d.2.1 then d.2.2 else e0 t
  | none => e0 t
theorem envD_put {ds : List (Nat × Nat × PV)} {L : Nat → Bool} {e0 : Env} {d i : Nat} {v : PV} (h : ds.find? (fun x => x.1 == d) = some (d, i, v)) (hn : ∀ t x, ds.find? (fun x => x.1 == t) = some x → x.2.1 = i → t = d) :
    (envD ds L e0).put d v = envD ds (fun k => k == i || L k) e0 := by
  funext t
  by_cases htd : t = d
  · subst htd
    rw [show (envD ds L e0).put t v t = v by simp [Env.put]]
    unfold envD
    rw [h]
    simp
  · rw [show (envD ds L e0).put d v t = envD ds L e0 t by simp [Env.put, htd]]
    unfold envD
    cases hx : ds.find? (fun x => x.1 == t) with
    | none => rfl
    | some x =>
      have : (x.2.1 == i) = false := by
        cases hb : x.2.1 == i with
        | false => rfl
        | true => exact absurd (hn t x hx (by simpa using hb)) htd
      simp [this]
theorem envD_done {ds : List (Nat × Nat × PV)} {L : Nat → Bool} {e0 : Env} {d i : Nat} {v : PV} (h : ds.find? (fun x => x.1 == d) = some (d, i, v)) (hL : L i = true) : envD ds L e0 d = v := by
  unfold envD
  rw [h]
  simp [hL]
theorem envD_old {ds : List (Nat × Nat × PV)} {L : Nat → Bool} {e0 : Env} {d : Nat} (h : ds.find? (fun x => x.1 == d) = none) : envD ds L e0 d = e0 d := by
  unfold envD
  rw [h]
theorem envD_start (ds : List (Nat × Nat × PV)) (e0 : Env) : envD ds (fun _ => false) e0 = e0 := by
  funext t
  unfold envD
  split <;> simp

/-- Own arrays that go to a call for good. -/
theorem PCalls.give {P : Program} {f : FuncId} {args args' : List PV} {S Sf : Store} {K : PV → Store → Prop} (hS : ∀ id c, Sf id = some c → S id = some c) (hl : args.length = args'.length)
    (hz : ∀ (k : Nat) p q, args[k]? = some p → args'[k]? = some q → Fz Sf p q ∧ q.bare = q) (h : PCalls P f args' (fun id => if (Sf id).isSome then none else S id) K) : PCalls P f args S K := by
  refine ⟨h.1, fun g w rargs hst => ?_⟩
  have fr1 := Fr.freeze g w Sf
  have hst1 : St args'.length (g.freeze Sf) w (argEnv args') (fun id => if (Sf id).isSome then none else S id) rargs := by
    refine ⟨by rw [← hl]; exact hst.size, fun t ht => ?_, fun t ht => ?_, fun id cells hi => ?_, fun b o hb => by rw [freeze_lab, hst.new b o hb]⟩
    · have hq : args'[t]? = some args'[t] := List.getElem?_eq_getElem ht
      obtain ⟨p, hp⟩ := get_of_len hl hq
      obtain ⟨z1, z2⟩ := hz t p _ hp hq
      have e1 : argEnv args t = p := by simp [argEnv, List.getD_eq_getElem?_getD, hp]
      have e2 : argEnv args' t = args'[t] := by simp [argEnv, List.getD_eq_getElem?_getD, hq]
      have hr := (hst.slots t (by omega)).rel
      rw [e1] at hr
      rw [e2]
      exact .ofRel (z1.rel (g := g) (g1 := g.freeze Sf) (fun b o hl => by rw [freeze_lab, hl]) (fun b o id hl hs => by rw [freeze_lab, hl]; simp [hs]) rfl rfl (fun id cells hi => hst.objs id cells (hS id cells hi)) hr) z2
    · simp [argEnv, List.getD_eq_getElem?_getD, List.getElem?_eq_none ht]
    · have hi0 : (if (Sf id).isSome then none else S id) = some cells := hi
      split at hi0
      · cases hi0
      · rename_i hs
        have hob := hst.objs id cells hi0
        refine ⟨hob.lt, fun k u hku => ?_⟩
        obtain ⟨q1, q2, ru, q3, q4, q5, q6⟩ := hob.cell k u hku
        refine ⟨?_, q2, ru, q3, q4, q5.mono fr1, q6.map fun b o ⟨c1, c2⟩ => ⟨by rw [freeze_lab, c1], c2⟩⟩
        show (g.freeze Sf).lab (g.loc id).1 ((g.loc id).2 + k) = _
        rw [freeze_lab, q1]
        simp [hs]
  refine (h.2 (g.freeze Sf) w rargs hst1).mono fun en w' => ?_
  rintro ⟨rv, v, S', g', rfl, hk, fr, htop, hobjs, hnew⟩
  exact ⟨rv, v, S', g', rfl, hk, fr1.trans fr, htop, hobjs, hnew⟩
end Go.VL
