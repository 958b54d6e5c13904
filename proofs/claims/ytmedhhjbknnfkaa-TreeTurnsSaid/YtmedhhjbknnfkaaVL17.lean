/- VL, part 17: a region that draws its order, in the order of the text. -/
import Derived.Test.YtmedhhjbknnfkaaVL16
set_option linter.unusedVariables false
set_option linter.unusedSimpArgs false
namespace Go.VL
open Go

/-- The operations one behind the other, in the order of the text. -/
def vopsQ (C : Ctx) (X : Fx) (all : List Oper) (K : Env → Store → Prop) : List Oper → Env → Store → Prop
  | [], e, S => K e S
  | o :: os, e, S => (match ods o, vguard all o e with
    | some d, some true => if d < X.n ∧ (o.dst = none ∨ mvOk X o d) then ∃ v, qop C X o e S v ∧ vopsQ C X all K os (effG (mvr X o) d e v) S else False
    | some d, some false => if d < X.n ∧ o.dst = some d then vopsQ C X all K os (e.put d (.tup [])) S else False
    | _, _ => False)

section
variable {C : Ctx} {X : Fx} {e0 : Env} {S : Store} {K : Env → Store → Prop}

/-- The last of a set of operations that turns a slot. -/
def lastW (X : Fx) (all : List Oper) (L : Nat → Bool) (t : Nat) : Option Nat := (List.range all.length).reverse.find? fun i => L i && ((all[i]?).elim false fun p => (wrs X p).contains t)
/-- The slots, when those of a set of operations have answered. -/
def envL (X : Fx) (all : List Oper) (e0 : Env) (vals : Nat → Nat → PV) (L : Nat → Bool) : Env := fun t =>
  match lastW X all L t with
  | some i => vals i t
  | none => e0 t

theorem lastW_some {all : List Oper} {L : Nat → Bool} {t i : Nat} (h : lastW X all L t = some i) : L i = true ∧ ∃ p, all[i]? = some p ∧ t ∈ wrs X p := by
  have := List.find?_some h
  simp only [Bool.and_eq_true] at this
  obtain ⟨h1, h2⟩ := this
  cases hp : all[i]? with
  | none => rw [hp] at h2; cases h2
  | some p => rw [hp] at h2; exact ⟨h1, p, rfl, by simpa using h2⟩
/-- Two sets in which the same operations turn a slot. -/
theorem lastW_congr {all : List Oper} {L M : Nat → Bool} {t : Nat} (h : ∀ (i : Nat) (p : Oper), all[i]? = some p → t ∈ wrs X p → L i = M i) : lastW X all L t = lastW X all M t := by
  unfold lastW
  congr 1
  funext i
  cases hp : all[i]? with
  | none => simp
  | some p =>
    by_cases ho : t ∈ wrs X p
    · rw [h i p hp ho]
    · have : ((some p).elim false fun p => (wrs X p).contains t) = false := by simpa using ho
      rw [this, Bool.and_false, Bool.and_false]
theorem find_range {f : Nat → Bool} : ∀ (n i : Nat), i < n → f i = true → (∀ j, i < j → j < n → f j = false) → (List.range n).reverse.find? f = some i
  | 0, i, h, _, _ => by omega
  | n + 1, i, h, hf, hn => by
    rw [List.range_succ, List.reverse_append]
    simp only [List.reverse_cons, List.reverse_nil, List.nil_append, List.singleton_append, List.find?_cons]
    by_cases e : i = n
    · subst e; rw [hf]
    · rw [hn n (by omega) (by omega)]
      exact find_range n i (by omega) hf fun j h1 h2 => hn j h1 (by omega)
theorem lastW_of {all : List Oper} {L : Nat → Bool} {t i : Nat} {p : Oper} (hp : all[i]? = some p) (ho : t ∈ wrs X p) (hL : L i = true) (hn : ∀ (j : Nat) (q : Oper), i < j → all[j]? = some q → t ∈ wrs X q → L j = false) : lastW X all L t = some i := by
  refine find_range _ i (List.getElem?_eq_some_iff.1 hp).1 (by simp [hL, hp, ho]) fun j h1 h2 => ?_
  have hq : all[j]? = some all[j] := List.getElem?_eq_getElem h2
  by_cases hoj : t ∈ wrs X all[j]
  · simp [hn j _ h1 hq hoj]
  · simp [hq, hoj]

/-- The slots, when one more operation has answered. -/
def upd (X : Fx) (o : Oper) (f : Nat → PV) (e : Env) : Env := fun t => if t ∈ wrs X o then f t else e t
theorem envL_put {all : List Oper} {vals : Nat → Nat → PV} {L : Nat → Bool} {i : Nat} {p : Oper} (hp : all[i]? = some p) (hn : ∀ (j : Nat) (q : Oper), i < j → all[j]? = some q → (∃ t, t ∈ wrs X p ∧ t ∈ wrs X q) → L j = false) :
    upd X p (vals i) (envL X all e0 vals L) = envL X all e0 vals (fun j => j == i || L j) := by
  funext t
  simp only [upd, envL]
  by_cases ht : t ∈ wrs X p
  · have hlast : lastW X all (fun j => j == i || L j) t = some i := lastW_of hp ht (by simp) (fun j q hj hq ho => by
      have : (j == i) = false := by simpa using Nat.ne_of_gt hj
      rw [hn j q hj hq ⟨t, ht, ho⟩, this]
      rfl)
    rw [if_pos ht, hlast]
  · rw [if_neg ht]
    rw [lastW_congr (L := L) (M := fun j => j == i || L j)]
    intro j q hq ho
    have : j ≠ i := by
      rintro rfl
      rw [hp] at hq
      injection hq with hq
      subst hq
      exact ht ho
    simp [this]
theorem mem_wrs {o : Oper} {t : Nat} : t ∈ wrs X o ↔ ods o = some t ∨ mvr X o = some t := by
  unfold wrs
  simp only [List.mem_append, Option.mem_toList]
theorem effG_out {o : Oper} {d t : Nat} {e : Env} {v : PV} (hd : ods o = some d) (ht : t ∉ wrs X o) : effG (mvr X o) d e v t = e t := by
  rw [mem_wrs] at ht
  have h1 : t ≠ d := fun h => ht (.inl (by rw [hd, h]))
  unfold effG
  cases hs : mvr X o with
  | some s =>
    have h2 : t ≠ s := fun h => ht (.inr (by rw [hs, h]))
    simp only [Env.put]
    rw [if_neg h1, if_neg h2]
  | none =>
    simp only [Env.put]
    rw [if_neg h1]
theorem put_out {o : Oper} {d t : Nat} {e : Env} {v : PV} (hd : ods o = some d) (ht : t ∉ wrs X o) : e.put d v t = e t := by
  rw [mem_wrs] at ht
  have h1 : t ≠ d := fun h => ht (.inl (by rw [hd, h]))
  simp only [Env.put]
  rw [if_neg h1]
theorem effG_in {o : Oper} {d t : Nat} {e e' : Env} {v : PV} (hd : ods o = some d) (ht : t ∈ wrs X o) (he : ∀ s, mvr X o = some s → e s = e' s) : effG (mvr X o) d e v t = effG (mvr X o) d e' v t := by
  rw [mem_wrs] at ht
  unfold effG
  cases hm : mvr X o with
  | none =>
    rw [hm, hd] at ht
    rcases ht with ht | ht
    · injection ht with ht; subst ht; simp [Env.put]
    · cases ht
  | some s =>
    have := he s hm
    rw [hm, hd] at ht
    simp only [Env.put]
    by_cases h1 : t = d
    · rw [if_pos h1, if_pos h1]
    · rw [if_neg h1, if_neg h1]
      rcases ht with ht | ht
      · injection ht with ht; exact absurd ht.symm h1
      · injection ht with ht
        subst ht
        rw [if_pos rfl, if_pos rfl, this]
theorem put_in {o : Oper} {d t : Nat} {e e' : Env} {v : PV} (hd : ods o = some d) (ht : t ∈ wrs X o) (he : ∀ s, mvr X o = some s → e s = e' s) : e.put d v t = e'.put d v t := by
  rw [mem_wrs] at ht
  simp only [Env.put]
  by_cases h1 : t = d
  · rw [if_pos h1, if_pos h1]
  · rw [if_neg h1, if_neg h1]
    rcases ht with ht | ht
    · rw [hd] at ht; injection ht with ht; exact absurd ht.symm h1
    · exact he t ht

/-- Regions that draw: their own law is said below (part 16). -/
def vdraw (C : Ctx) (X : Fx) (ops : Array Oper) (K : Env → Store → Prop) (e : Env) (S : Store) : Prop :=
  ∀ (g : Gh) (w : World) (a : Act) (Qr : Exit → Act → World → Prop), St X.n g w e S a.tmps → Goes X g w a K (fun a' w' => Qr .normal a' w') →
    wpAny C.P .any ops Qr ops.size (Array.replicate ops.size false) a w


structure RunOk (C : Ctx) (X : Fx) (all : List Oper) (e0 : Env) (S : Store) (vals : Nat → Nat → PV) (i : Nat) (o : Oper) : Prop where
  ok : ∃ d v, ods o = some d ∧ d < X.n ∧ ((vguard all o (envL X all e0 vals (fun j => decide (j < i))) = some true ∧ (o.dst = none ∨ mvOk X o d) ∧ qop C X o (envL X all e0 vals (fun j => decide (j < i))) S v ∧
      ∀ t ∈ wrs X o, vals i t = effG (mvr X o) d (envL X all e0 vals (fun j => decide (j < i))) v t) ∨
    (vguard all o (envL X all e0 vals (fun j => decide (j < i))) = some false ∧ o.dst = some d ∧ v = .tup [] ∧ ∀ t ∈ wrs X o, vals i t = (envL X all e0 vals (fun j => decide (j < i))).put d v t))

theorem envL_congr {all : List Oper} {vals vals' : Nat → Nat → PV} {L : Nat → Bool} (h : ∀ i, L i = true → vals i = vals' i) : envL X all e0 vals L = envL X all e0 vals' L := by
  funext t
  unfold envL
  split
  · rename_i i hi
    rw [h i (lastW_some hi).1]
  · rfl

theorem run_of {all : List Oper} : ∀ (os : List Oper) (k : Nat) (vals : Nat → Nat → PV), (∀ j, all[k + j]? = os[j]?) → vopsQ C X all K os (envL X all e0 vals (fun j => decide (j < k))) S →
    ∃ vals', (∀ i, i < k → vals' i = vals i) ∧ (∀ (i : Nat) (o : Oper), k ≤ i → all[i]? = some o → RunOk C X all e0 S vals' i o) ∧ K (envL X all e0 vals' (fun j => decide (j < all.length))) S
  | [], k, vals, hl, hv => by
    refine ⟨vals, fun _ _ => rfl, fun i o hi ho => ?_, ?_⟩
    · have := hl (i - k)
      rw [show k + (i - k) = i from by omega, ho] at this
      simp at this
    · have hlen : all.length ≤ k := by
        have := hl 0
        simpa using this
      have : envL X all e0 vals (fun j => decide (j < all.length)) = envL X all e0 vals (fun j => decide (j < k)) := by
        funext t
        unfold envL
        rw [lastW_congr (M := fun j => decide (j < k))]
        intro i p hp _
        have := (List.getElem?_eq_some_iff.1 hp).1
        rw [decide_eq_true this, decide_eq_true (by omega)]
      rw [this]
      exact hv
  | o :: os, k, vals, hl, hv => by
    have ho : all[k]? = some o := by have := hl 0; simpa using this
    have hl' : ∀ j, all[k + 1 + j]? = os[j]? := fun j => by
      have := hl (j + 1)
      rw [show k + (j + 1) = k + 1 + j from by omega] at this
      simpa using this
    have step : ∀ {E : Env}, (∀ t, t ∉ wrs X o → E t = envL X all e0 vals (fun j => decide (j < k)) t) → vopsQ C X all K os E S →
        ∃ vals', (∀ i, i < k → vals' i = vals i) ∧ (∀ t, vals' k t = E t) ∧ (∀ (i : Nat) (o : Oper), k + 1 ≤ i → all[i]? = some o → RunOk C X all e0 S vals' i o) ∧ K (envL X all e0 vals' (fun j => decide (j < all.length))) S := by
      intro E hE hv
      have e1 : E = envL X all e0 (fun i => if i = k then E else vals i) (fun j => decide (j < k + 1)) := by
        have h1 : envL X all e0 vals (fun j => decide (j < k)) = envL X all e0 (fun i => if i = k then E else vals i) (fun j => decide (j < k)) := envL_congr fun i hi => by
          have : i ≠ k := by simp at hi; omega
          simp [this]
        have h2 := envL_put (X := X) (e0 := e0) (vals := fun i => if i = k then E else vals i) (L := fun j => decide (j < k)) ho (fun j q hj _ _ => by simp; omega)
        have h3 : E = upd X o ((fun i => if i = k then E else vals i) k) (envL X all e0 (fun i => if i = k then E else vals i) (fun j => decide (j < k))) := by
          rw [← h1]
          funext t
          unfold upd
          by_cases ht : t ∈ wrs X o
          · rw [if_pos ht]; simp
          · rw [if_neg ht]; exact hE t ht
        rw [h2] at h3
        refine h3.trans ?_
        congr 1
        funext j
        by_cases h3 : j = k
        · subst h3; simp
        · have : (j == k) = false := by simpa using h3
          rw [this, Bool.false_or]
          rw [decide_eq_decide]
          omega
      rw [e1] at hv
      obtain ⟨vals', q1, q2, q3⟩ := run_of os (k + 1) _ hl' hv
      refine ⟨vals', fun i hi => ?_, ?_, q2, q3⟩
      · rw [q1 i (by omega)]
        have : i ≠ k := by omega
        simp [this]
      · intro t
        rw [q1 k (by omega)]
        simp
    unfold vopsQ at hv
    split at hv
    · rename_i d hd hg
      split at hv
      · rename_i hc
        obtain ⟨v, hq, hv⟩ := hv
        obtain ⟨vals', q1, q2, q3, q4⟩ := step (fun t ht => effG_out hd ht) hv
        have he : envL X all e0 vals' (fun j => decide (j < k)) = envL X all e0 vals (fun j => decide (j < k)) := envL_congr fun i hi => q1 i (by simpa using hi)
        refine ⟨vals', q1, fun i o' hi ho' => ?_, q4⟩
        by_cases h1 : i = k
        · subst h1
          rw [ho] at ho'
          injection ho' with ho'
          subst ho'
          exact ⟨d, v, hd, hc.1, .inl (by rw [he]; exact ⟨hg, hc.2, hq, fun t _ => q2 t⟩)⟩
        · exact q3 i o' (by omega) ho'
      · exact hv.elim
    · rename_i d hd hg
      split at hv
      · rename_i hc
        obtain ⟨vals', q1, q2, q3, q4⟩ := step (fun t ht => put_out hd ht) hv
        have he : envL X all e0 vals' (fun j => decide (j < k)) = envL X all e0 vals (fun j => decide (j < k)) := envL_congr fun i hi => q1 i (by simpa using hi)
        refine ⟨vals', q1, fun i o' hi ho' => ?_, q4⟩
        by_cases h1 : i = k
        · subst h1
          rw [ho] at ho'
          injection ho' with ho'
          subst ho'
          exact ⟨d, .tup [], hd, hc.1, .inr (by rw [he]; exact ⟨hg, hc.2, rfl, fun t _ => q2 t⟩)⟩
        · exact q3 i o' (by omega) ho'
      · exact hv.elim
    · exact hv.elim

/-! ### any order -/
structure Listed (all : List Oper) (listed : Array Bool) : Prop where
  size : listed.size = all.length
  closed : ∀ (j : Nat) (o : Oper), all[j]? = some o → listed.getD j false = true → ∀ i ∈ edgesOf o, listed.getD i false = true

theorem Listed.reach {all : List Oper} {listed : Array Bool} (h : Listed all listed) {j i : Nat} (hr : Reach all j i) : listed.getD j false = true → listed.getD i false = true := by
  induction hr with
  | edge ho he => exact fun hj => h.closed _ _ ho hj _ he
  | step ho he _ ih => exact fun hj => ih (h.closed _ _ ho hj _ he)

theorem drawOk_parts {all : List Oper} (h : drawOk X all = true) : (∀ (i j : Nat) (p o : Oper), all[i]? = some p → all[j]? = some o → i < j → (∃ t, t ∈ wrs X p ∧ t ∈ wrs X o) → Reach all j i) ∧ (∀ (j : Nat) (o : Oper), all[j]? = some o → (∀ i ∈ edgesOf o, i < j) ∧
    ∀ t ∈ looks all o, ∀ (i : Nat) (p : Oper), all[i]? = some p → t ∈ wrs X p → i = j ∨ Reach all j i ∨ Reach all i j) ∧ ∀ o ∈ all, ∀ cs b, o.op ≠ .select cs b := by
  simp only [drawOk, Bool.and_eq_true] at h
  obtain ⟨⟨h1, h2⟩, h3⟩ := h
  have hre : ∀ i k, ((befGo [] all).getD i 0).testBit k = true → Reach all i k := befGo_reach all [] (by simp) (by simp)
  refine ⟨fun i j p o hp ho hij hd => ?_, fun j o ho => ?_, fun o ho cs b hs => ?_⟩
  · rw [List.all_eq_true] at h2
    have hm : (o, j) ∈ all.zipIdx := by
      rw [List.mem_iff_getElem?]
      exact ⟨j, by simp [ho]⟩
    have hm2 : (p, i) ∈ all.zipIdx := by
      rw [List.mem_iff_getElem?]
      exact ⟨i, by simp [hp]⟩
    have := h2 _ hm
    simp only [Bool.and_eq_true, List.all_eq_true, Bool.or_eq_true, Bool.not_eq_true', decide_eq_false_iff_not, List.contains_eq_mem] at this
    rcases this.1.2 (p, i) hm2 with (h4 | h4) | h4
    · exact absurd hij h4
    · obtain ⟨t, ht1, ht2⟩ := hd
      exact absurd ht2 (h4 t ht1)
    · exact hre _ _ h4
  · rw [List.all_eq_true] at h2
    have hm : (o, j) ∈ all.zipIdx := by
      rw [List.mem_iff_getElem?]
      exact ⟨j, by simp [ho]⟩
    have := h2 _ hm
    simp only [Bool.and_eq_true, List.all_eq_true, decide_eq_true_eq, Bool.or_eq_true, Bool.not_eq_true', decide_eq_false_iff_not, List.contains_eq_mem, beq_iff_eq] at this
    refine ⟨this.1.1, fun t ht i p hp hpd => ?_⟩
    have hm2 : (p, i) ∈ all.zipIdx := by
      rw [List.mem_iff_getElem?]
      exact ⟨i, by simp [hp]⟩
    rcases this.2 t ht (p, i) hm2 with ((h4 | h4) | h4) | h4
    · exact absurd hpd h4
    · exact .inl h4
    · exact .inr (.inl (hre _ _ h4))
    · exact .inr (.inr (hre _ _ h4))
  · rw [List.all_eq_true] at h3
    have := h3 o ho
    rw [hs] at this
    simp at this

theorem agree {all : List Oper} (h : drawOk X all = true) {listed : Array Bool} (hL : Listed all listed) {vals : Nat → Nat → PV} {j : Nat} {o : Oper} (ho : all[j]? = some o) (hj : listed.getD j false = false) (hready : ∀ i ∈ edgesOf o, listed.getD i false = true)
    (t : Nat) (ht : t ∈ looks all o) : envL X all e0 vals (fun i => listed.getD i false) t = envL X all e0 vals (fun i => decide (i < j)) t := by
  obtain ⟨h1, h2, _⟩ := drawOk_parts h
  have hlt : ∀ {j i}, Reach all j i → i < j := by
    intro j i hr
    induction hr with
    | edge ho he => exact (h2 _ _ ho).1 _ he
    | step ho he _ ih => exact Nat.lt_trans ih ((h2 _ _ ho).1 _ he)
  unfold envL
  rw [lastW_congr (M := fun i => decide (i < j))]
  intro i p hp hpd
  rcases (h2 j o ho).2 t ht i p hp hpd with hr | hr | hr
  · subst hr
    rw [hj]
    simp
  · have hin : listed.getD i false = true := by
      cases hr with
      | edge ho' he => rw [ho] at ho'; injection ho' with ho'; subst ho'; exact hready _ he
      | step ho' he hr' => rw [ho] at ho'; injection ho' with ho'; subst ho'; exact hL.reach hr' (hready _ he)
    rw [hin, decide_eq_true (hlt hr)]
  · have hout : listed.getD i false = false := by
      cases hx : listed.getD i false with
      | false => rfl
      | true => rw [hL.reach hr hx] at hj; cases hj
    rw [hout]
    have := hlt hr
    simp
    omega

theorem mem_ready {ops : Array Oper} {listed : Array Bool} {i : Nat} (h : i ∈ Region.ready .any ops listed) : ∃ o, ops[i]? = some o ∧ listed.getD i true = false ∧ ∀ k ∈ edgesOf o, listed.getD k false = true := by
  unfold Region.ready at h
  simp only [List.mem_filter, List.mem_range, Bool.and_eq_true, Bool.not_eq_true'] at h
  obtain ⟨hlt, h1, h2⟩ := h
  have ho : ops[i]? = some ops[i] := Array.getElem?_eq_getElem hlt
  rw [ho] at h2
  refine ⟨_, ho, h1, fun k hk => ?_⟩
  simp only [edgesOf, List.mem_map, List.mem_filter] at hk
  obtain ⟨ed, ⟨hm, hb⟩, rfl⟩ := hk
  simp only [Option.map_some, Option.getD_some, Array.all_eq_true_iff_forall_mem] at h2
  have := h2 ed (Array.mem_toList_iff.1 hm)
  simpa [hb] using this

theorem ready_mem {ops : Array Oper} {listed : Array Bool} {i : Nat} {o : Oper} (ho : ops[i]? = some o) (h1 : listed.getD i true = false) (h2 : ∀ k ∈ edgesOf o, listed.getD k false = true) : i ∈ Region.ready .any ops listed := by
  unfold Region.ready
  simp only [List.mem_filter, List.mem_range, Bool.and_eq_true, Bool.not_eq_true']
  refine ⟨(Array.getElem?_eq_some_iff.1 ho).1, h1, ?_⟩
  rw [ho]
  simp only [Option.map_some, Option.getD_some, Array.all_eq_true_iff_forall_mem]
  intro ed hm
  cases hb : Region.binds .any ed with
  | false => simp
  | true =>
    have := h2 ed.on (by simp only [edgesOf, List.mem_map, List.mem_filter]; exact ⟨ed, ⟨Array.mem_toList_iff.2 hm, hb⟩, rfl⟩)
    simpa using this

theorem getD_of {listed : Array Bool} {i : Nat} (h : i < listed.size) (b c : Bool) : listed.getD i b = listed.getD i c := by simp [Array.getD, h]

def left (listed : Array Bool) : Nat := (listed.toList.filter (!·)).length

theorem left_set {listed : Array Bool} {i : Nat} (hi : i < listed.size) (h : listed.getD i false = false) : left listed = left (listed.setIfInBounds i true) + 1 := by
  unfold left
  have hl : listed.toList[i]? = some false := by
    rw [Array.getElem?_toList, Array.getElem?_eq_getElem hi]
    simp [Array.getD, hi] at h
    rw [h]
  have hs : (listed.setIfInBounds i true).toList = listed.toList.set i true := by simp
  rw [hs]
  generalize listed.toList = l at hl
  clear hs h hi
  induction l generalizing i with
  | nil => simp at hl
  | cons b l ih =>
    rcases i with _ | i
    · simp at hl
      subst hl
      simp
    · simp at hl
      have := ih hl
      cases b <;> simp [this]

theorem any_sound {ops : Array Oper} {vals : Nat → Nat → PV} {Qr : Exit → Act → World → Prop} (hok : drawOk X ops.toList = true) (hrun : ∀ (i : Nat) (o : Oper), ops.toList[i]? = some o → RunOk C X ops.toList e0 S vals i o)
    (hK : K (envL X ops.toList e0 vals (fun j => decide (j < ops.toList.length))) S) : ∀ (fuel : Nat) (listed : Array Bool) (g : Gh) (w : World) (a : Act), Listed ops.toList listed → left listed = fuel → St X.n g w (envL X ops.toList e0 vals (fun i => listed.getD i false)) S a.tmps →
    Goes X g w a K (fun a' w' => Qr .normal a' w') → wpAny C.P .any ops Qr fuel listed a w := by
  intro fuel
  obtain ⟨hds, hpart, hsel⟩ := drawOk_parts hok
  -- when nothing is ready, all was done
  have fin : ∀ (listed : Array Bool) (g : Gh) (w : World) (a : Act), Listed ops.toList listed → Region.ready .any ops listed = [] → St X.n g w (envL X ops.toList e0 vals (fun i => listed.getD i false)) S a.tmps → Goes X g w a K (fun a' w' => Qr .normal a' w') → Qr .normal a w := by
    intro listed g w a hL hr hst hR
    have allDone : ∀ i, i < ops.toList.length → listed.getD i false = true := by
      intro i
      induction i using Nat.strongRecOn with
      | _ i ih =>
        intro hi
        cases hx : listed.getD i false with
        | true => rfl
        | false =>
          have ho : ops.toList[i]? = some ops.toList[i] := List.getElem?_eq_getElem hi
          have : i ∈ Region.ready .any ops listed := ready_mem (by rw [← Array.getElem?_toList]; exact ho) (by rw [getD_of (by rw [hL.size]; exact hi) true false]; exact hx) (fun k hk => by
            have := (hpart i _ ho).1 k hk
            exact ih k this (by omega))
          rw [hr] at this
          cases this
    have he : envL X ops.toList e0 vals (fun i => listed.getD i false) = envL X ops.toList e0 vals (fun j => decide (j < ops.toList.length)) := by
      funext t
      unfold envL
      rw [lastW_congr (M := fun j => decide (j < ops.toList.length))]
      intro i p hp _
      have hlt := (List.getElem?_eq_some_iff.1 hp).1
      rw [allDone i hlt, decide_eq_true hlt]
    exact hR _ _ g w a hK (by rw [← he]; exact hst) rfl (Fr.refl g w)
  induction fuel with
  | zero =>
    intro listed g w a hL hleft hst hR
    have hr : Region.ready .any ops listed = [] := by
      cases hr : Region.ready .any ops listed with
      | nil => rfl
      | cons i l =>
        obtain ⟨o, ho, h1, _⟩ := mem_ready (i := i) (by rw [hr]; exact List.mem_cons_self ..)
        have hi : i < listed.size := by rw [hL.size, Array.length_toList]; exact (Array.getElem?_eq_some_iff.1 ho).1
        have := left_set hi (by rw [getD_of hi false true]; exact h1)
        omega
    exact ⟨hr, fin listed g w a hL hr hst hR⟩
  | succ fuel ih =>
    intro listed g w a hL hleft hst hR
    refine ⟨fun hr => fin listed g w a hL hr hst hR, fun i hi => ?_⟩
    obtain ⟨o, ho, h1, h2⟩ := mem_ready hi
    have hos : ops.toList[i]? = some o := by rw [Array.getElem?_toList]; exact ho
    have hsz : i < listed.size := by rw [hL.size, Array.length_toList]; exact (Array.getElem?_eq_some_iff.1 ho).1
    have h1' : listed.getD i false = false := by rw [getD_of hsz false true]; exact h1
    obtain ⟨d, v, hd, hdn, hcase⟩ := (hrun i o hos).ok
    have hag := fun t ht => agree (e0 := e0) (vals := vals) hok hL hos h1' h2 t ht
    have hL' : Listed ops.toList (listed.setIfInBounds i true) := by
      refine ⟨by simp [hL.size], fun j o' ho' hj k hk => ?_⟩
      have set_get : ∀ k, (listed.setIfInBounds i true).getD k false = (k == i || listed.getD k false) := by
        intro k
        by_cases hki : k = i
        · subst hki; simp [Array.getD, hsz]
        · have : (k == i) = false := by simpa using hki
          rw [this, Bool.false_or]
          simp only [Array.getD_eq_getD_getElem?, Array.getElem?_setIfInBounds_ne (Ne.symm hki)]
      rw [set_get] at hj ⊢
      simp only [Bool.or_eq_true, beq_iff_eq] at hj ⊢
      right
      rcases hj with hj | hj
      · subst hj
        rw [hos] at ho'
        injection ho' with ho'
        subst ho'
        exact h2 k hk
      · exact hL.closed j o' ho' hj k hk
    have hleft' : left (listed.setIfInBounds i true) = fuel := by
      have := left_set hsz h1'
      omega
    have hset : envL X ops.toList e0 vals (fun j => (listed.setIfInBounds i true).getD j false) = upd X o (vals i) (envL X ops.toList e0 vals (fun j => listed.getD j false)) := by
      rw [envL_put hos (fun j q hij hq hqd => by
        cases hx : listed.getD j false with
        | false => rfl
        | true => rw [hL.reach (hds i j o q hos hq hij hqd) hx] at h1'; cases h1')]
      congr 1
      funext k
      by_cases hki : k = i
      · subst hki; simp [Array.getD, hsz]
      · have : (k == i) = false := by simpa using hki
        rw [this, Bool.false_or]
        simp only [Array.getD_eq_getD_getElem?, Array.getElem?_setIfInBounds_ne (Ne.symm hki)]
    have hgd : vguard ops.toList o (envL X ops.toList e0 vals (fun j => listed.getD j false)) = vguard ops.toList o (envL X ops.toList e0 vals (fun j => decide (j < i))) := vguard_congr fun j want d' hg hd' => hag d' (by
      unfold looks
      rw [hg]
      refine List.mem_append_right _ ?_
      dsimp only
      rw [hd']
      simp)
    have hmr : ∀ s, mvr X o = some s → envL X ops.toList e0 vals (fun j => decide (j < i)) s = envL X ops.toList e0 vals (fun j => listed.getD j false) s := fun s hs => (hag s (mvr_looks hs)).symm
    have cont : ∀ (E : Env) g' w' a', E = upd X o (vals i) (envL X ops.toList e0 vals (fun j => listed.getD j false)) → St X.n g' w' E S a'.tmps → a'.defers = a.defers → Fr g g' w w' → wpAny C.P .any ops Qr fuel (listed.setIfInBounds i true) a' w' := by
      intro E g' w' a' hE hst' hd' fr
      refine ih (listed.setIfInBounds i true) g' w' a' hL' hleft' (by rw [hset, ← hE]; exact hst') ?_
      intro e2 S2 g2 w2 a2 hK2 hst2 hd2 fr2
      exact hR e2 S2 g2 w2 a2 hK2 hst2 (hd2.trans hd') (fr.trans fr2)
    unfold wpOp
    rw [ho]
    dsimp only
    rcases hcase with ⟨hg, hmv, hq, hvals⟩ | ⟨hg, hdd, hv, hvals⟩
    · rw [← hgd] at hg
      rw [if_pos (vguard_sound hst hg)]
      have hq' : qop C X o (envL X ops.toList e0 vals (fun j => listed.getD j false)) S v := qop_congr (fun t ht => hag t (by unfold looks; exact List.mem_append_left _ ht)) hq
      have hv := qop_vop (K := fun e' S' => e' = effG (mvr X o) d (envL X ops.toList e0 vals (fun j => listed.getD j false)) v ∧ S' = S) hd hdn hmv hq' ⟨rfl, rfl⟩
      refine .inl (vop_sound hst hv ?_)
      rintro e' S' g' w' a' ⟨rfl, rfl⟩ hst' hd' fr
      refine cont _ g' w' a' ?_ hst' hd' fr
      funext t
      unfold upd
      by_cases ht : t ∈ wrs X o
      · rw [if_pos ht, hvals t ht]
        exact (effG_in hd ht hmr).symm
      · rw [if_neg ht]
        exact effG_out hd ht
    · rw [← hgd] at hg
      rw [if_neg (by rw [vguard_sound hst hg]; simp)]
      refine cont ((envL X ops.toList e0 vals (fun j => listed.getD j false)).put d v) g w _ ?_ ?_ (put_defers _ _ _) (Fr.refl g w)
      · funext t
        unfold upd
        by_cases ht : t ∈ wrs X o
        · rw [if_pos ht, hvals t ht]
          exact (put_in hd ht hmr).symm
        · rw [if_neg ht]
          exact put_out hd ht
      · rw [hv, hdd]
        exact hst.put hdn ⟨.tup (by simp) (by simp), by simp [Tail]⟩

theorem vdraw_of {ops : Array Oper} (hok : drawOk X ops.toList = true) (h : vopsQ C X ops.toList K ops.toList e0 S) : vdraw C X ops K e0 S := by
  intro g w a Qr hst hR
  obtain ⟨hds, _, _⟩ := drawOk_parts hok
  have e1 : envL X ops.toList e0 (fun _ _ => .undef) (fun j => decide (j < 0)) = e0 := by
    funext t
    unfold envL
    split
    · rename_i i hi
      have := (lastW_some hi).1
      simp at this
    · rfl
  obtain ⟨vals, _, q2, q3⟩ := run_of (C := C) (X := X) (K := K) (S := S) (e0 := e0) (all := ops.toList) ops.toList 0 (fun _ _ => .undef) (by simp) (by rw [e1]; exact h)
  have e2 : envL X ops.toList e0 vals (fun i => (Array.replicate ops.size false).getD i false) = e0 := by
    funext t
    unfold envL
    split
    · rename_i i hi
      have := (lastW_some hi).1
      simp [Array.getD] at this
    · rfl
  refine any_sound hok (fun i o ho => q2 i o (Nat.zero_le _) ho) q3 ops.size _ g w a ⟨by simp, fun j o ho hj => ?_⟩ ?_ (by rw [e2]; exact hst) hR
  · simp [Array.getD] at hj
  · unfold left
    simp

/-! ### all orders, one by one -/
inductive OT where
  | done
  | one (i : Nat) (t : OT)
  | alt (a b : OT)
  deriving DecidableEq

def otAll (f : Nat → OT) : List Nat → OT
  | [] => .done
  | [i] => .one i (f i)
  | i :: l => .alt (.one i (f i)) (otAll f l)

def ordTree (ops : Array Oper) : Nat → Array Bool → OT
  | 0, _ => .done
  | n + 1, listed => otAll (fun i => ordTree ops n (listed.setIfInBounds i true)) (Region.ready .any ops listed)

def vopsO (C : Ctx) (X : Fx) (all : List Oper) (K : Env → Store → Prop) (e : Env) (S : Store) : Option Oper → Prop
  | some o => vops C X all K [o] e S
  | none => False

def vtree (C : Ctx) (X : Fx) (all : List Oper) (K : Env → Store → Prop) : OT → Env → Store → Prop
  | .done, e, S => K e S
  | .one i t, e, S => vopsO C X all (vtree C X all K t) e S all[i]?
  | .alt a b, e, S => vtree C X all K a e S ∧ vtree C X all K b e S

theorem otAll_mem {all : List Oper} {f : Nat → OT} : ∀ (l : List Nat), vtree C X all K (otAll f l) e0 S → ∀ i ∈ l, vopsO C X all (vtree C X all K (f i)) e0 S all[i]?
  | [], _, i, hi => by cases hi
  | [j], h, i, hi => by
    have : i = j := by simpa using hi
    subst this
    exact h
  | j :: k :: l, h, i, hi => by
    rcases List.mem_cons.1 hi with rfl | hi
    · exact h.1
    · exact otAll_mem (k :: l) h.2 i hi

theorem vtree_sound {ops : Array Oper} {Qr : Exit → Act → World → Prop} : ∀ (fuel : Nat) (listed : Array Bool) (g : Gh) (w : World) (a : Act) (e : Env) (S : Store), left listed ≤ fuel → listed.size = ops.size → vtree C X ops.toList K (ordTree ops fuel listed) e S → St X.n g w e S a.tmps →
    Goes X g w a K (fun a' w' => Qr .normal a' w') → wpAny C.P .any ops Qr fuel listed a w := by
  intro fuel
  induction fuel with
  | zero =>
    intro listed g w a e S hleft hsz hv hst hR
    have hr : Region.ready .any ops listed = [] := by
      cases hr : Region.ready .any ops listed with
      | nil => rfl
      | cons i l =>
        obtain ⟨o, ho, h1, _⟩ := mem_ready (i := i) (by rw [hr]; exact List.mem_cons_self ..)
        have hi : i < listed.size := by rw [hsz]; exact (Array.getElem?_eq_some_iff.1 ho).1
        have := left_set hi (by rw [getD_of hi false true]; exact h1)
        omega
    exact ⟨hr, hR _ _ g w a hv hst rfl (Fr.refl g w)⟩
  | succ fuel ih =>
    intro listed g w a e S hleft hsz hv hst hR
    unfold ordTree at hv
    refine ⟨fun hr => ?_, fun i hi => ?_⟩
    · rw [hr] at hv
      exact hR _ _ g w a hv hst rfl (Fr.refl g w)
    · obtain ⟨o, ho, h1, _⟩ := mem_ready hi
      have hsz' : i < listed.size := by rw [hsz]; exact (Array.getElem?_eq_some_iff.1 ho).1
      have h1' : listed.getD i false = false := by rw [getD_of hsz' false true]; exact h1
      have hl := left_set hsz' h1'
      have hv := otAll_mem _ hv i hi
      have hos : ops.toList[i]? = some o := by rw [Array.getElem?_toList]; exact ho
      rw [hos] at hv
      simp only [vopsO] at hv
      have cont : ∀ g' w' a' e' S', vtree C X ops.toList K (ordTree ops fuel (listed.setIfInBounds i true)) e' S' → St X.n g' w' e' S' a'.tmps → a'.defers = a.defers → Fr g g' w w' → wpAny C.P .any ops Qr fuel (listed.setIfInBounds i true) a' w' := by
        intro g' w' a' e' S' hv' hst' hd' fr
        refine ih (listed.setIfInBounds i true) g' w' a' e' S' (by omega) (by simpa using hsz) hv' hst' ?_
        intro e2 S2 g2 w2 a2 hK2 hst2 hd2 fr2
        exact hR e2 S2 g2 w2 a2 hK2 hst2 (hd2.trans hd') (fr.trans fr2)
      unfold wpOp
      rw [ho]
      dsimp only
      unfold vops at hv
      split at hv
      · rename_i hg
        rw [if_pos (vguard_sound hst hg)]
        refine .inl (vop_sound hst hv ?_)
        intro e' S' g' w' a' hK hst' hd' fr
        exact cont g' w' a' e' S' hK hst' hd' fr
      · rename_i hg
        rw [if_neg (by rw [vguard_sound hst hg]; simp)]
        split at hv
        · rename_i hd
          exact cont g w _ _ S hv (hst.skip hd) (put_defers _ _ _) (Fr.refl g w)
        · exact hv.elim
      · exact hv.elim

theorem vdraw_tree {ops : Array Oper} {t : OT} (h : ordTree ops ops.size (Array.replicate ops.size false) = t) (hv : vtree C X ops.toList K t e0 S) : vdraw C X ops K e0 S := by
  subst h
  intro g w a Qr hst hR
  refine vtree_sound ops.size _ g w a e0 S ?_ (by simp) hv hst hR
  unfold left
  simp
end
end Go.VL
