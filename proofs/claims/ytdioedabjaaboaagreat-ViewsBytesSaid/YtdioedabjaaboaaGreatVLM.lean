/- VL: a region of free order in which some operations change objects, walked in one order of one's own choosing. -/
import Derived.Test.YtdioedabjaaboaaGreatVL24
set_option linter.unusedVariables false
set_option linter.unusedSimpArgs false
namespace Go.VL
open Go

theorem PCalls.weaken {P : Program} {f : FuncId} {args : List PV} {S : Store} {K K' : PV → Store → Prop} (h : PCalls P f args S K) (hK : ∀ v S', K v S' → K' v S') : PCalls P f args S K' :=
 ⟨h.1, fun g w rargs hst => (h.2 g w rargs hst).mono fun en w' ⟨rv, v, S', g', h1, h2, h3⟩ => ⟨rv, v, S', g', h1, hK v S' h2, h3⟩⟩

section
variable {C : Ctx} {X : Fx} {e0 : Env} {S : Store} {K : Env → Store → Prop}

def ClosedL (all : List Oper) (L : Nat → Bool) : Prop := ∀ (j : Nat) (o : Oper), all[j]? = some o → L j = true → ∀ k ∈ edgesOf o, L k = true
theorem ClosedL.reach {all : List Oper} {L : Nat → Bool} (h : ClosedL all L) {j i : Nat} (hr : Reach all j i) : L j = true → L i = true := by
 induction hr with
 | edge ho he => exact fun hj => h _ _ ho hj _ he
 | step ho he _ ih => exact fun hj => ih (h _ _ ho hj _ he)
/-- Ready: not done, and what it waits for is done. -/
def RdyL (all : List Oper) (L : Nat → Bool) (i : Nat) (o : Oper) : Prop := L i = false ∧ ∀ k ∈ edgesOf o, L k = true
theorem RdyL.reach {all : List Oper} {L : Nat → Bool} {i j : Nat} {o : Oper} (hL : ClosedL all L) (ho : all[i]? = some o) (h : RdyL all L i o) (hr : Reach all i j) : L j = true := by
 cases hr with
 | edge ho' he => rw [ho] at ho'; injection ho' with ho'; subst ho'; exact h.2 _ he
 | step ho' he hr' => rw [ho] at ho'; injection ho' with ho'; subst ho'; exact hL.reach hr' (h.2 _ he)
/-- In two states in which an operation is ready, what it looks at is the same. -/
theorem agree2 {all : List Oper} (h : drawOk X all = true) {L M : Nat → Bool} (hL : ClosedL all L) (hM : ClosedL all M) {vals : Nat → Nat → PV} {i : Nat} {o : Oper} (ho : all[i]? = some o) (r1 : RdyL all L i o) (r2 : RdyL all M i o)
  (t : Nat) (ht : t ∈ looks all o) : envL X all e0 vals L t = envL X all e0 vals M t := by
 obtain ⟨_, h2, _⟩ := drawOk_parts h
 unfold envL
 rw [lastW_congr (M := M)]
 intro j p hp hpd
 rcases (h2 i o ho).2 t ht j p hp hpd with hr | hr | hr
 ·subst hr
  rw [r1.1, r2.1]
 ·rw [r1.reach hL ho hr, r2.reach hM ho hr]
 ·have out : ∀ {L : Nat → Bool}, ClosedL all L → L i = false → L j = false := fun {L} hL hi => by
   cases hx : L j with
   | false => rfl
   | true => rw [hL.reach hr hx] at hi; cases hi
  rw [out hL r1.1, out hM r2.1]

/-- Does an operation look into objects? -/
def readsS (o : Oper) : Bool :=
 match o.op with
 | .call ⟨.builtin .append, _, _⟩ => true
 | .call ⟨.builtin _, _, _⟩ => false
 | .call _ => true
 | .load _ _ => true
 | _ => false
theorem qop_store {o : Oper} {e : Env} {S S' : Store} {v : PV} (h : readsS o = false) (hq : qop C X o e S v) : qop C X o e S' v := by
 obtain ⟨dst, op, ty, pos, af, gd⟩ := o
 unfold readsS at h
 unfold qop at hq ⊢
 cases op with
 | call c =>
  obtain ⟨cal, xs, ts⟩ := c
  cases cal with
  | builtin b =>
   cases b with
   | append => simp at h
   | _ => exact hq
  | _ => simp at h
 | load t x => simp at h
 | move x =>
  have e1 : qop0 C X ⟨dst, .move x, ty, pos, af, gd⟩ e S v = qop0 C X ⟨dst, .move x, ty, pos, af, gd⟩ e S' v := by
   cases x with
   | const c =>
    cases c with
    | slice a l cp => cases a <;> cases l <;> cases cp <;> rfl
    | _ => rfl
   | _ => rfl
  have e2 : ∀ s : Nat, qmv C X ⟨dst, .move x, ty, pos, af, gd⟩ e S v = qmv C X ⟨dst, .move x, ty, pos, af, gd⟩ e S' v := fun s => by
   cases dst <;> cases x <;> rfl
  revert hq
  rw [e1]
  split
  ·rw [e2 0]; exact id
  ·exact id
 | assign x =>
  have e1 : qop0 C X ⟨dst, .assign x, ty, pos, af, gd⟩ e S v = qop0 C X ⟨dst, .assign x, ty, pos, af, gd⟩ e S' v := by
   cases x with
   | const c =>
    cases c with
    | slice a l cp => cases a <;> cases l <;> cases cp <;> rfl
    | _ => rfl
   | _ => rfl
  have e2 : ∀ s : Nat, qmv C X ⟨dst, .assign x, ty, pos, af, gd⟩ e S v = qmv C X ⟨dst, .assign x, ty, pos, af, gd⟩ e S' v := fun s => by
   cases dst <;> cases x <;> rfl
  revert hq
  rw [e1]
  split
  ·rw [e2 0]; exact id
  ·exact id
 | store t a x => cases a <;> exact hq
 | _ => exact hq

def isLoad (o : Oper) : Bool :=
 match o.op with
 | .load _ _ => true
 | _ => false
theorem qop_sub {o : Oper} {e : Env} {S S' : Store} {v : PV} (h : isLoad o = true) (hs : ∀ id c, S id = some c → S' id = some c) (hq : qop C X o e S v) : qop C X o e S' v := by
 obtain ⟨dst, op, ty, pos, af, gd⟩ := o
 unfold isLoad at h
 cases op with
 | load t x =>
  have hm : mvr X ⟨dst, .load t x, ty, pos, af, gd⟩ = none := by cases dst <;> rfl
  unfold qop at hq ⊢
  rw [hm] at hq ⊢
  dsimp only [qop0] at hq ⊢
  split at hq
  ·split at hq
   ·rename_i cells hS
    rw [hs _ _ hS]
    exact hq
   ·exact hq.elim
  ·exact hq
 | _ => simp at h

/-- The operations that may change objects: calls, and variables of one's own. -/
def chOk (X : Fx) (o : Oper) : Bool :=
 match o.op, o.dst with
 | .call ⟨.value (.func _), _, _⟩, some d => !X.mv d && decide (d < X.n)
 | .alloc _, some d => X.vars d && decide (d < X.n)
 | .box _ _, some d => X.vars d && decide (d < X.n)
 | _, _ => false
theorem ch_frame {o : Oper} {d : Nat} {e e' : Env} {S : Store} {K1 K2 : Env → Store → Prop} (hc : chOk X o = true) (hd : o.dst = some d) (hl : ∀ t, t ∈ opTmps o.op.operands.toList → e' t = e t) (h : vop C X o K1 e S)
  (hK : ∀ v S', K1 (e.put d v) S' → K2 (e'.put d v) S') : vop C X o K2 e' S := by
 obtain ⟨dst, op, ty, pos, af, gd⟩ := o
 dsimp only at hd
 subst hd
 unfold chOk at hc
 split at hc
 ·rename_i f xs ts d' hop hdd
  dsimp only at hop hdd
  subst hop
  injection hdd with hdd
  subst hdd
  simp only [Bool.and_eq_true, Bool.not_eq_true', decide_eq_true_eq] at hc
  unfold vop at h ⊢
  dsimp only at h ⊢
  unfold vCall at h ⊢
  dsimp only at h ⊢
  unfold vCallF at h ⊢
  simp only [mvd, hc.1, dstOk, hc.2, decide_true, Bool.not_false, Bool.true_or, Bool.and_self, if_true, afterCall, Bool.false_eq_true, if_false] at h ⊢
  have hcg : cargs C false xs.toList ts.toList e' = cargs C false xs.toList ts.toList e := cargs_congr _ _ fun t ht => hl t (by
   rw [mem_opTmps]
   simp only [Op.operands, Call.operands]
   simp
   simpa using ht)
  rw [hcg]
  exact h.weaken fun v S' hv => hK v S' hv
 ·rename_i t d' hop hdd
  dsimp only at hop hdd
  subst hop
  injection hdd with hdd
  subst hdd
  simp only [Bool.and_eq_true, decide_eq_true_eq] at hc
  unfold vop at h ⊢
  dsimp only at h ⊢
  unfold vAlloc at h ⊢
  cases ht : C.T t with
  | none => rw [ht] at h; exact h.elim
  | some ti =>
   rw [ht] at h
   simp only [hc.1, hc.2, if_true] at h ⊢
   exact fun id hid => hK _ _ (h id hid)
 ·rename_i t x d' hop hdd
  dsimp only at hop hdd
  subst hop
  injection hdd with hdd
  subst hdd
  simp only [Bool.and_eq_true, decide_eq_true_eq] at hc
  have hev : ev x e' = ev x e := ev_congr fun t ht => hl t (by rw [mem_opTmps]; simp [Op.operands, ht])
  unfold vop at h ⊢
  dsimp only at h ⊢
  unfold vBox at h ⊢
  dsimp only at h ⊢
  rw [hev]
  simp only [hc.1, if_true] at h ⊢
  split at h
  ·simp only [hc.2, if_true] at h ⊢
   exact fun id hid => hK _ _ (h id hid)
  ·exact h
 ·cases hc

/-- No object at all: a load that is walked there reads what never changes. -/
def S00 : Store := fun _ => none
/-- The operations in an order of one's own: those that change objects as they stand, the others by their answers. -/
def vopsM (C : Ctx) (X : Fx) (all : List Oper) (ch ad : Nat → Bool) (K : Env → Store → Prop) : List Nat → Env → Store → Prop
 | [], e, S => K e S
 | i :: is, e, S => (match all[i]? with
  | some o => if ch i then (if ad i then vops C X all (fun e' S' => (∀ id c, S id = some c → S' id = some c) ∧ vopsM C X all ch ad K is e' S') [o] e S else vops C X all (vopsM C X all ch ad K is) [o] e S) else (if (ad i && isLoad o) = true then vopsQ C X all (fun e' _ => vopsM C X all ch ad K is e' S) [o] e S00 else vopsQ C X all (vopsM C X all ch ad K is) [o] e S)
  | none => False)

def mixOk (X : Fx) (all : List Oper) (ch ad : Nat → Bool) (ord : List Nat) : Bool :=
 let b := befGo [] all
 let r := fun i k => (b.getD i 0).testBit k
 drawOk X all && decide (ord.Nodup) && (List.range all.length).all (fun i => ord.contains i) && (ord.all fun i => decide (i < all.length)) &&
 -- what comes first in the order does not wait for what comes later
 (ord.zipIdx.all fun (i, p) => (all[i]?).elim true fun o => (edgesOf o).all fun k => (ord.take p).contains k) &&
 -- who stands behind a change waits for it
 (ord.zipIdx.all fun (i, p) => ord.zipIdx.all fun (k, q) => !(ch i) || !(decide (p < q)) || ch k || r k i || (ord.zipIdx.any fun (c, s) => ch c && decide (p < s) && decide (s < q))) &&
 -- changes are in order, with one another and with who looks into objects
 (all.zipIdx.all fun (o, i) => all.zipIdx.all fun (p, k) => !(ch k) || i == k || (!(ch i) && (!(readsS o) || ((ad k || ad i) && isLoad o))) || r i k || r k i) &&
 (all.zipIdx.all fun (o, i) => !(ch i) || chOk X o)

theorem mixOk_parts {all : List Oper} {ch ad : Nat → Bool} {ord : List Nat} (h : mixOk X all ch ad ord = true) : drawOk X all = true ∧ ord.Nodup ∧ (∀ i, i < all.length → i ∈ ord) ∧ (∀ i ∈ ord, i < all.length) ∧
  (∀ dn (i : Nat) rest, ord = dn ++ i :: rest → ∀ o, all[i]? = some o → ∀ k ∈ edgesOf o, k ∈ dn) ∧
  (∀ dn (i : Nat) mid (k : Nat) rest, ord = dn ++ i :: (mid ++ k :: rest) → ch i = true → (∀ c ∈ mid, ch c = false) → ch k = false → Reach all k i) ∧
  (∀ (i k : Nat) (o p : Oper), all[i]? = some o → all[k]? = some p → ch k = true → i ≠ k → (ch i = true ∨ (readsS o = true ∧ ((ad k || ad i) && isLoad o) = false)) → Reach all i k ∨ Reach all k i) ∧
  (∀ (i : Nat) (o : Oper), all[i]? = some o → ch i = true → chOk X o = true) := by
 unfold mixOk at h
 simp only [Bool.and_eq_true] at h
 obtain ⟨⟨⟨⟨⟨⟨⟨h1, h2⟩, h3⟩, h4⟩, h5⟩, h6⟩, h7⟩, h8⟩ := h
 have hre : ∀ i k, ((befGo [] all).getD i 0).testBit k = true → Reach all i k := befGo_reach all [] (by simp) (by simp)
 have at_ : ∀ (dn : List Nat) (i : Nat) (rest : List Nat), ord = dn ++ i :: rest → ord[dn.length]? = some i := fun dn i rest e => by rw [e]; simp
 have mz : ∀ {i p : Nat}, ord[p]? = some i → (i, p) ∈ ord.zipIdx := fun {i p} h => by
  rw [List.mem_iff_getElem?]
  exact ⟨p, by simp [h]⟩
 have ma : ∀ {i : Nat} {o : Oper}, all[i]? = some o → (o, i) ∈ all.zipIdx := fun {i o} h => by
  rw [List.mem_iff_getElem?]
  exact ⟨i, by simp [h]⟩
 rw [List.all_eq_true] at h3 h4 h5 h6 h7 h8
 refine ⟨h1, of_decide_eq_true h2, fun i hi => by simpa using h3 i (by simpa using hi), fun i hi => by simpa using h4 i hi, ?_, ?_, ?_, ?_⟩
 ·intro dn i rest e o ho k hk
  have := h5 _ (mz (at_ dn i rest e))
  dsimp only at this
  rw [ho, e, List.take_left'] at this
  ·simp only [Option.elim_some, List.all_eq_true] at this
   simpa using this k hk
  ·rfl
 ·intro dn i mid k rest e hci hmid hck
  have hi := at_ dn i _ e
  have hk : ord[dn.length + 1 + mid.length]? = some k := by
   rw [e, List.getElem?_append_right (by omega), show dn.length + 1 + mid.length - dn.length = mid.length + 1 by omega]
   simp
  have h9 := h6 _ (mz hi)
  rw [List.all_eq_true] at h9
  have h10 := h9 _ (mz hk)
  simp only [Bool.or_eq_true, Bool.not_eq_true', decide_eq_false_iff_not, hci, hck] at h10
  rcases h10 with (((h | h) | h) | h) | h
  ·cases h
  ·omega
  ·cases h
  ·exact hre _ _ h
  ·rw [List.any_eq_true] at h
   obtain ⟨⟨c, s⟩, hm, hcs⟩ := h
   simp only [Bool.and_eq_true, decide_eq_true_eq] at hcs
   obtain ⟨⟨hc, hs1⟩, hs2⟩ := hcs
   rw [List.mem_iff_getElem?] at hm
   obtain ⟨n, hn⟩ := hm
   simp only [List.getElem?_zipIdx, Option.map_eq_some_iff, Prod.mk.injEq] at hn
   obtain ⟨a, ha, rfl, hs⟩ := hn
   have hs : s = n := by omega
   subst hs
   have : mid[s - (dn.length + 1)]? = some a := by
    rw [e, List.getElem?_append_right (by omega), show s - dn.length = (s - (dn.length + 1)) + 1 by omega, List.getElem?_cons_succ, List.getElem?_append_left (by omega)] at ha
    exact ha
   rw [hmid a (List.mem_of_getElem? this)] at hc
   cases hc
 ·intro i k o p ho hp hck hik hor
  have h9 := h7 _ (ma ho)
  rw [List.all_eq_true] at h9
  have h10 := h9 _ (ma hp)
  simp only [Bool.or_eq_true, Bool.and_eq_true, Bool.not_eq_true', beq_iff_eq] at h10
  rcases h10 with (((h | h) | h) | h) | h
  ·rw [hck] at h; cases h
  ·exact absurd h hik
  ·rcases hor with h' | ⟨h', h''⟩
   ·rw [h'] at h; cases h.1
   ·rcases h.2 with h3 | h3
    ·rw [h'] at h3; cases h3
    ·rcases h3 with ⟨h3 | h3, h4⟩
     ·rw [h3, h4] at h''; cases h''
     ·rw [h3, h4, Bool.or_true] at h''; cases h''
  ·exact .inl (hre _ _ h)
  ·exact .inr (hre _ _ h)
 ·intro i o ho hc
  have := h8 _ (ma ho)
  rw [hc] at this
  simpa using this

/-- What an operation answers that was walked ahead and is not yet done. -/
def RQ (C : Ctx) (X : Fx) (all : List Oper) (ad : Nat → Bool) (e0 : Env) (vals : Nat → Nat → PV) (dn : List Nat) (S : Store) (i : Nat) : Prop :=
 ∃ (o : Oper) (d : Nat) (v : PV) (B : Nat → Bool), all[i]? = some o ∧ ods o = some d ∧ d < X.n ∧ ClosedL all B ∧ RdyL all B i o ∧ (∀ k, B k = true → k ∈ dn) ∧
  ((vguard all o (envL X all e0 vals B) = some true ∧ (o.dst = none ∨ mvOk X o d) ∧ (qop C X o (envL X all e0 vals B) S v ∧ ((ad i && isLoad o) = true → qop C X o (envL X all e0 vals B) S00 v)) ∧ ∀ t ∈ wrs X o, vals i t = effG (mvr X o) d (envL X all e0 vals B) v t) ∨
  (vguard all o (envL X all e0 vals B) = some false ∧ o.dst = some d ∧ v = .tup [] ∧ ∀ t ∈ wrs X o, vals i t = (envL X all e0 vals B).put d v t))
def inB (dn : List Nat) : Nat → Bool := fun i => dn.contains i
theorem inB_mem {dn : List Nat} {i : Nat} : inB dn i = true ↔ i ∈ dn := by simp [inB]
theorem envL_vals {all : List Oper} {vals vals' : Nat → Nat → PV} {L : Nat → Bool} (h : ∀ i, L i = true → vals' i = vals i) : envL X all e0 vals' L = envL X all e0 vals L := envL_congr fun i hi => h i hi
theorem RQ.vals {all : List Oper} {ad : Nat → Bool} {vals vals' : Nat → Nat → PV} {dn dn' : List Nat} {i : Nat} (h : RQ C X all ad e0 vals dn S i) (hi : vals' i = vals i) (hv : ∀ k ∈ dn, vals' k = vals k) (hd : ∀ k ∈ dn, k ∈ dn') : RQ C X all ad e0 vals' dn' S i := by
 obtain ⟨o, d, v, B, h1, h2, h3, h4, h5, h6, h7⟩ := h
 have he : envL X all e0 vals' B = envL X all e0 vals B := envL_vals fun k hk => hv k (h6 k hk)
 exact ⟨o, d, v, B, h1, h2, h3, h4, h5, fun k hk => hd k (h6 k hk), by rw [he, hi]; exact h7⟩

/-- The operations that change nothing, up to the next one that may. -/
theorem seg {all : List Oper} {ch ad : Nat → Bool} {ord : List Nat} (hok : mixOk X all ch ad ord = true) : ∀ (rest dn : List Nat) (vals : Nat → Nat → PV), ord = dn ++ rest → ClosedL all (inB dn) → vopsM C X all ch ad K rest (envL X all e0 vals (inB dn)) S →
  ∃ q rest' vals', rest = q ++ rest' ∧ (∀ i ∈ q, ch i = false) ∧ (rest' = [] ∨ ∃ c r, rest' = c :: r ∧ ch c = true) ∧ (∀ i ∈ dn, vals' i = vals i) ∧ (∀ i ∈ q, RQ C X all ad e0 vals' (dn ++ q) S i) ∧ ClosedL all (inB (dn ++ q)) ∧
   vopsM C X all ch ad K rest' (envL X all e0 vals' (inB (dn ++ q))) S
 | [], dn, vals, he, hcl, hv => ⟨[], [], vals, rfl, by simp, .inl rfl, fun _ _ => rfl, by simp, by rwa [List.append_nil], by rwa [List.append_nil]⟩
 | i :: rest, dn, vals, he, hcl, hv => by
  obtain ⟨hdr, hnd, hall, hlt, htop, hwait, hord, hch⟩ := mixOk_parts hok
  obtain ⟨hds, hpart, hsel⟩ := drawOk_parts hdr
  cases hci : ch i with
  | true => exact ⟨[], i :: rest, vals, rfl, by simp, .inr ⟨i, rest, rfl, hci⟩, fun _ _ => rfl, by simp, by rwa [List.append_nil], by rwa [List.append_nil]⟩
  | false =>
   unfold vopsM at hv
   cases ho : all[i]? with
   | none => rw [ho] at hv; exact hv.elim
   | some o =>
    rw [ho] at hv
    simp only [hci, Bool.false_eq_true, if_false] at hv
    have hidn : i ∉ dn := by
     rw [he, List.nodup_append] at hnd
     exact fun h => hnd.2.2 i h i List.mem_cons_self rfl
    have hrdy : RdyL all (inB dn) i o := ⟨by
     cases h : inB dn i with
     | false => rfl
     | true => exact absurd (inB_mem.1 h) hidn, fun k hk => inB_mem.2 (htop dn i rest he o ho k hk)⟩
    have hcl' : ClosedL all (inB (dn ++ [i])) := by
     intro j p hp hj k hk
     rw [inB_mem] at hj ⊢
     rcases List.mem_append.1 hj with hj | hj
     ·exact List.mem_append_left _ (inB_mem.1 (hcl j p hp (inB_mem.2 hj) k hk))
     ·have : j = i := by simpa using hj
      subst this
      rw [ho] at hp
      injection hp with hp
      subst hp
      exact List.mem_append_left _ (inB_mem.1 (hrdy.2 k hk))
    have step : ∀ (E : Env) (d : Nat) (v : PV), ods o = some d → d < X.n → (∀ t, t ∉ wrs X o → E t = envL X all e0 vals (inB dn) t) →
      ((vguard all o (envL X all e0 vals (inB dn)) = some true ∧ (o.dst = none ∨ mvOk X o d) ∧ (qop C X o (envL X all e0 vals (inB dn)) S v ∧ ((ad i && isLoad o) = true → qop C X o (envL X all e0 vals (inB dn)) S00 v)) ∧ ∀ t ∈ wrs X o, E t = effG (mvr X o) d (envL X all e0 vals (inB dn)) v t) ∨
      (vguard all o (envL X all e0 vals (inB dn)) = some false ∧ o.dst = some d ∧ v = .tup [] ∧ ∀ t ∈ wrs X o, E t = (envL X all e0 vals (inB dn)).put d v t)) →
      vopsM C X all ch ad K rest E S → ∃ q rest' vals', i :: rest = q ++ rest' ∧ (∀ i ∈ q, ch i = false) ∧ (rest' = [] ∨ ∃ c r, rest' = c :: r ∧ ch c = true) ∧ (∀ i ∈ dn, vals' i = vals i) ∧ (∀ i ∈ q, RQ C X all ad e0 vals' (dn ++ q) S i) ∧ ClosedL all (inB (dn ++ q)) ∧
       vopsM C X all ch ad K rest' (envL X all e0 vals' (inB (dn ++ q))) S := by
     intro E d v hd hdn hE hR hv
     have e1 : E = envL X all e0 (fun j => if j = i then E else vals j) (inB (dn ++ [i])) := by
      have h1 : envL X all e0 (fun j => if j = i then E else vals j) (inB dn) = envL X all e0 vals (inB dn) := envL_vals fun k hk => by
       have : k ≠ i := fun h => hidn (h ▸ inB_mem.1 hk)
       simp [this]
      have h2 := envL_put (X := X) (e0 := e0) (vals := fun j => if j = i then E else vals j) (L := inB dn) ho (fun j p hj hp hw => by
       cases h : inB dn j with
       | false => rfl
       | true =>
        have := hcl.reach (hds i j o p ho hp hj hw) h
        rw [hrdy.1] at this
        cases this)
      have h3 : E = upd X o ((fun j => if j = i then E else vals j) i) (envL X all e0 (fun j => if j = i then E else vals j) (inB dn)) := by
       rw [h1]
       funext t
       unfold upd
       by_cases ht : t ∈ wrs X o
       ·rw [if_pos ht]; simp
       ·rw [if_neg ht]; exact hE t ht
      rw [h2] at h3
      refine h3.trans ?_
      congr 1
      funext j
      unfold inB
      by_cases hj : j = i
      ·subst hj; simp
      ·have : (j == i) = false := by simpa using hj
       simp [hj]
     rw [e1] at hv
     obtain ⟨q, rest', vals', q1, q2, q3, q4, q5, q6, q7⟩ := seg hok rest (dn ++ [i]) _ (by rw [he]; simp) hcl' hv
     have hvi : vals' i = E := by rw [q4 i (by simp)]; simp
     have hvd : ∀ k ∈ dn, vals' k = vals k := fun k hk => by
      rw [q4 k (List.mem_append_left _ hk)]
      have : k ≠ i := fun h => hidn (h ▸ hk)
      simp [this]
     refine ⟨i :: q, rest', vals', by rw [q1]; rfl, fun j hj => ?_, q3, hvd, fun j hj => ?_, by simpa using q6, by simpa using q7⟩
     ·rcases List.mem_cons.1 hj with rfl | hj
      ·exact hci
      ·exact q2 j hj
     ·rcases List.mem_cons.1 hj with rfl | hj
      ·have he2 : envL X all e0 vals' (inB dn) = envL X all e0 vals (inB dn) := envL_vals fun k hk => hvd k (inB_mem.1 hk)
       refine ⟨o, d, v, inB dn, ho, hd, hdn, hcl, hrdy, fun k hk => List.mem_append_left _ (inB_mem.1 hk), ?_⟩
       rw [he2, hvi]
       exact hR
      ·have := q5 j hj
       simpa using this
    by_cases hal : (ad i && isLoad o) = true
    ·rw [if_pos hal] at hv
     have hil : isLoad o = true := (Bool.and_eq_true_iff.1 hal).2
     unfold vopsQ at hv
     split at hv
     ·rename_i d hd hg
      split at hv
      ·rename_i hc
       obtain ⟨v, hq, hv⟩ := hv
       exact step _ d v hd hc.1 (fun t ht => effG_out hd ht) (.inl ⟨hg, hc.2, ⟨qop_sub hil (fun _ _ h => by cases h) hq, fun _ => hq⟩, fun t _ => rfl⟩) hv
      ·exact hv.elim
     ·rename_i d hd hg
      split at hv
      ·rename_i hc
       exact step _ d (.tup []) hd hc.1 (fun t ht => put_out hd ht) (.inr ⟨hg, hc.2, rfl, fun t _ => rfl⟩) hv
      ·exact hv.elim
     ·exact hv.elim
    rw [if_neg hal] at hv
    unfold vopsQ at hv
    split at hv
    ·rename_i d hd hg
     split at hv
     ·rename_i hc
      obtain ⟨v, hq, hv⟩ := hv
      exact step _ d v hd hc.1 (fun t ht => effG_out hd ht) (.inl ⟨hg, hc.2, ⟨hq, fun h => absurd h hal⟩, fun t _ => rfl⟩) hv
     ·exact hv.elim
    ·rename_i d hd hg
     split at hv
     ·rename_i hc
      exact step _ d (.tup []) hd hc.1 (fun t ht => put_out hd ht) (.inr ⟨hg, hc.2, rfl, fun t _ => rfl⟩) hv
     ·exact hv.elim
    ·exact hv.elim
theorem vtree_anyM {ops : Array Oper} (I : (Nat → Bool) → Env → Store → Prop)
  (hord : ∀ (j : Nat) (o : Oper), ops[j]? = some o → ∀ k ∈ edgesOf o, k < j)
  (hstep : ∀ (i : Nat) (o : Oper), ops[i]? = some o → ∀ L e S, ClosedL ops.toList L → L i = false → (∀ k ∈ edgesOf o, L k = true) → I L e S → ∀ K' : Env → Store → Prop, (∀ e' S', I (fun k => k == i || L k) e' S' → K' e' S') → vops C X ops.toList K' [o] e S)
  (hend : ∀ L e S, (∀ k, k < ops.size → L k = true) → I L e S → K e S) :
  ∀ (fuel : Nat) (listed : Array Bool) (e : Env) (S : Store), left listed ≤ fuel → listed.size = ops.size → ClosedL ops.toList (fun k => listed.getD k false) → I (fun k => listed.getD k false) e S → vtree C X ops.toList K (ordTree ops fuel listed) e S := by
 have all_done : ∀ listed : Array Bool, listed.size = ops.size → Region.ready .any ops listed = [] → ∀ k, k < ops.size → listed.getD k false = true := by
  intro listed hsz hr k
  induction k using Nat.strongRecOn with
  | _ k ih =>
   intro hk
   cases hd : listed.getD k false with
   | true => rfl
   | false =>
    have ho : ops[k]? = some ops[k] := Array.getElem?_eq_getElem hk
    have := ready_mem (i := k) ho (by rw [getD_of (by omega) true false]; exact hd) fun j hj => ih j (hord k _ ho j hj) (by have := hord k _ ho j hj; omega)
    rw [hr] at this
    cases this
 intro fuel
 induction fuel with
 | zero =>
  intro listed e S hleft hsz hcl hI
  refine hend _ e S (fun k hk => ?_) hI
  cases hd : listed.getD k false with
  | true => rfl
  | false =>
   have := left_set (listed := listed) (i := k) (by omega) hd
   omega
 | succ fuel ih =>
  intro listed e S hleft hsz hcl hI
  unfold ordTree
  cases hr : Region.ready .any ops listed with
  | nil => exact hend _ e S (all_done listed hsz hr) hI
  | cons i l =>
   have one : ∀ j ∈ Region.ready .any ops listed, vtree C X ops.toList K (.one j (ordTree ops fuel (listed.setIfInBounds j true))) e S := by
    intro j hj
    obtain ⟨o, ho, h1, h2⟩ := mem_ready hj
    have hj' : j < listed.size := by rw [hsz]; exact (Array.getElem?_eq_some_iff.1 ho).1
    have h1' : listed.getD j false = false := by rw [getD_of hj' false true]; exact h1
    have hl := left_set hj' h1'
    have hset : (fun k => (listed.setIfInBounds j true).getD k false) = fun k => k == j || listed.getD k false := by
     funext k
     by_cases hkj : k = j
     ·subst hkj
      simp [Array.getD, hj']
     ·have : (k == j) = false := by simp [hkj]
      rw [this, Bool.false_or]
      simp only [Array.getD, Array.size_setIfInBounds]
      split
      ·rename_i hk
       exact Array.getElem_setIfInBounds_ne hk (Ne.symm hkj)
      ·rfl
    show vopsO C X ops.toList _ e S ops.toList[j]?
    have hos : ops.toList[j]? = some o := by rw [Array.getElem?_toList]; exact ho
    rw [hos]
    refine hstep j o ho _ e S hcl h1' h2 hI _ fun e' S' hI' => ih _ e' S' (by omega) (by simpa using hsz) ?_ (by rw [hset]; exact hI')
    rw [hset]
    intro q oq hq hd k hk
    simp only [Bool.or_eq_true, beq_iff_eq] at hd ⊢
    rcases hd with rfl | hd
    ·rw [hos] at hq
     injection hq with hq
     subst hq
     exact .inr (h2 k hk)
    ·exact .inr (hcl q oq hq hd k hk)
   rw [hr] at one
   have go : ∀ l : List Nat, l ≠ [] → (∀ j ∈ l, vtree C X ops.toList K (.one j (ordTree ops fuel (listed.setIfInBounds j true))) e S) → vtree C X ops.toList K (otAll (fun i => ordTree ops fuel (listed.setIfInBounds i true)) l) e S := by
    intro l
    induction l with
    | nil => intro h; exact absurd rfl h
    | cons j l ihl =>
     intro _ h
     cases l with
     | nil => exact h j List.mem_cons_self
     | cons j2 l2 => exact ⟨h j List.mem_cons_self, ihl (by simp) fun q hq => h q (List.mem_cons_of_mem _ hq)⟩
   exact go (i :: l) (by simp) one

theorem last_ch {ch : Nat → Bool} : ∀ (l : List Nat), (∃ x ∈ l, ch x = true) → ∃ a c mid, l = a ++ c :: mid ∧ ch c = true ∧ ∀ x ∈ mid, ch x = false
 | [], h => by obtain ⟨x, hx, _⟩ := h; cases hx
 | x :: l, h => by
  by_cases h2 : ∃ y ∈ l, ch y = true
  ·obtain ⟨a, c, mid, e, h3, h4⟩ := last_ch l h2
   exact ⟨x :: a, c, mid, by rw [e]; rfl, h3, h4⟩
  ·obtain ⟨y, hy, hc⟩ := h
   rcases List.mem_cons.1 hy with rfl | hy
   ·refine ⟨[], y, l, rfl, hc, fun z hz => ?_⟩
    cases hcz : ch z with
    | false => rfl
    | true => exact absurd ⟨z, hz, hcz⟩ h2
   ·exact absurd ⟨y, hy, hc⟩ h2
theorem chOk_parts {o : Oper} (h : chOk X o = true) : ∃ d, o.dst = some d ∧ d < X.n ∧ mvr X o = none := by
 obtain ⟨dst, op, ty, pos, af, gd⟩ := o
 unfold chOk at h
 split at h
 ·rename_i f xs ts d hop hdd
  dsimp only at hop hdd
  subst hop; subst hdd
  simp only [Bool.and_eq_true, decide_eq_true_eq] at h
  exact ⟨d, rfl, h.2, rfl⟩
 ·rename_i t d hop hdd
  dsimp only at hop hdd
  subst hop; subst hdd
  simp only [Bool.and_eq_true, decide_eq_true_eq] at h
  exact ⟨d, rfl, h.2, rfl⟩
 ·rename_i t x d hop hdd
  dsimp only at hop hdd
  subst hop; subst hdd
  simp only [Bool.and_eq_true, decide_eq_true_eq] at h
  exact ⟨d, rfl, h.2, rfl⟩
 ·cases h

/-- The state of a region of which some operations are done. -/
def MixI (C : Ctx) (X : Fx) (all : List Oper) (ch ad : Nat → Bool) (ord : List Nat) (K : Env → Store → Prop) (e0 : Env) (L : Nat → Bool) (e : Env) (S : Store) : Prop :=
 ∃ dn rest vals, ord = dn ++ rest ∧ ClosedL all (inB dn) ∧ (∀ i, L i = true → i ∈ dn) ∧ (∀ i ∈ dn, ch i = true → L i = true) ∧ e = envL X all e0 vals L ∧
  (∀ i ∈ dn, ch i = false → L i = false → RQ C X all ad e0 vals dn S i) ∧ (rest = [] ∨ ∃ c r, rest = c :: r ∧ ch c = true) ∧ vopsM C X all ch ad K rest (envL X all e0 vals (inB dn)) S

theorem mix_step {all : List Oper} {ch ad : Nat → Bool} {ord : List Nat} (hok : mixOk X all ch ad ord = true) {i : Nat} {o : Oper} (ho : all[i]? = some o) {L : Nat → Bool} {e : Env} {S : Store} (hL : ClosedL all L) (hrdy : RdyL all L i o) (hI : MixI C X all ch ad ord K e0 L e S)
  (K' : Env → Store → Prop) (hK' : ∀ e' S', MixI C X all ch ad ord K e0 (fun k => k == i || L k) e' S' → K' e' S') : vops C X all K' [o] e S := by
 obtain ⟨hdr, hnd, hall, hlt, htop, hwait, hord, hch⟩ := mixOk_parts hok
 obtain ⟨hds, hpart, hsel⟩ := drawOk_parts hdr
 obtain ⟨dn, rest, vals, he, hcl, hLd, hdL, rfl, hpend, hhead, hv⟩ := hI
 have hiN : i < all.length := (List.getElem?_eq_some_iff.1 ho).1
 have hnd' := hnd
 rw [he, List.nodup_append] at hnd'
 have hdisj : ∀ k, k ∈ dn → k ∈ rest → False := fun k h1 h2 => hnd'.2.2 k h1 k h2 rfl
 have hrest : ∀ k, k < all.length → k ∉ dn → k ∈ rest := fun k hk hn => by
  have := hall k hk
  rw [he, List.mem_append] at this
  exact this.resolve_left hn
 have later : ∀ (j : Nat) (p : Oper), i < j → all[j]? = some p → (∃ t, t ∈ wrs X o ∧ t ∈ wrs X p) → L j = false := fun j p hj hp hw => by
  cases h : L j with
  | false => rfl
  | true =>
   have := hL.reach (hds i j o p ho hp hj hw) h
   rw [hrdy.1] at this
   cases this
 cases hci : ch i with
 | false =>
  have hidn : i ∈ dn := by
   refine Classical.byContradiction fun hn => ?_
   have hir := hrest i hiN hn
   obtain ⟨pre, post, hrp⟩ := List.append_of_mem hir
   rcases hhead with h | ⟨c, r, h, hcc⟩
   ·rw [h] at hir; cases hir
   ·have hpre : ∃ x ∈ pre, ch x = true := by
     rw [hrp] at h
     cases pre with
     | nil =>
      simp only [List.nil_append, List.cons.injEq] at h
      rw [h.1] at hci
      rw [hcc] at hci
      cases hci
     | cons x pre =>
      simp only [List.cons_append, List.cons.injEq] at h
      exact ⟨x, List.mem_cons_self, by rw [h.1]; exact hcc⟩
    obtain ⟨a, c', mid, hp, hc', hmid⟩ := last_ch pre hpre
    have hr := hwait (dn ++ a) c' mid i post (by rw [he, hrp, hp]; simp) hc' hmid hci
    have := hLd c' (hrdy.reach hL ho hr)
    exact hdisj c' this (by rw [hrp, hp]; simp)
  obtain ⟨o', d, v, B, ho', hd, hdn, hB, hrB, hBd, hcase⟩ := hpend i hidn hci hrdy.1
  rw [ho] at ho'
  injection ho' with ho'
  subst ho'
  have hag := fun t ht => agree2 (e0 := e0) (vals := vals) hdr hL hB ho hrdy hrB t ht
  have hgd : vguard all o (envL X all e0 vals L) = vguard all o (envL X all e0 vals B) := vguard_congr fun j want d' hg hd' => hag d' (by
   unfold looks
   rw [hg]
   refine List.mem_append_right _ ?_
   dsimp only
   rw [hd']
   simp)
  have hmr : ∀ s, mvr X o = some s → envL X all e0 vals L s = envL X all e0 vals B s := fun s hs => hag s (mvr_looks hs)
  have cont : ∀ E : Env, E = upd X o (vals i) (envL X all e0 vals L) → K' E S := by
   intro E hE
   refine hK' _ _ ⟨dn, rest, vals, he, hcl, fun k hk => ?_, fun k hk hc => ?_, ?_, fun k hk hc hl => ?_, hhead, hv⟩
   ·simp only [Bool.or_eq_true, beq_iff_eq] at hk
    rcases hk with rfl | hk
    ·exact hidn
    ·exact hLd k hk
   ·simp [hdL k hk hc]
   ·rw [hE, envL_put ho later]
   ·simp only [Bool.or_eq_false_iff] at hl
    exact hpend k hk hc hl.2
  unfold vops
  rcases hcase with ⟨hg, hmv, ⟨hq, _⟩, hvals⟩ | ⟨hg, hdd, hvt, hvals⟩
  ·rw [hgd, hg]
   dsimp only
   have hq' : qop C X o (envL X all e0 vals L) S v := qop_congr (fun t ht => hag t (by unfold looks; exact List.mem_append_left _ ht)) hq
   refine qop_vop hd hdn hmv hq' (cont _ ?_)
   funext t
   unfold upd
   by_cases ht : t ∈ wrs X o
   ·rw [if_pos ht, hvals t ht]
    exact effG_in hd ht hmr
   ·rw [if_neg ht]
    exact effG_out hd ht
  ·rw [hgd, hg]
   dsimp only
   rw [hdd]
   have : dstOk X (some d) = true := by simp [dstOk, hdn]
   rw [if_pos this]
   refine cont _ ?_
   show (envL X all e0 vals L).put d (.tup []) = _
   funext t
   unfold upd
   by_cases ht : t ∈ wrs X o
   ·rw [if_pos ht, hvals t ht, hvt]
    exact put_in hd ht hmr
   ·rw [if_neg ht]
    exact put_out hd ht
 | true =>
  have hin : i ∉ dn := fun h => by
   have := hdL i h hci
   rw [hrdy.1] at this
   cases this
  have hir := hrest i hiN hin
  rcases hhead with h | ⟨c, r, hr, hcc⟩
  ·rw [h] at hir; cases hir
  ·have hctop : ∀ p, all[c]? = some p → RdyL all (inB dn) c p := fun p hp => ⟨by
    cases h : inB dn c with
    | false => rfl
    | true => exact absurd (by rw [hr]; exact List.mem_cons_self) (hdisj c (inB_mem.1 h)), fun k hk => inB_mem.2 (htop dn c r (by rw [he, hr]) p hp k hk)⟩
   have hcdn : c ∉ dn := fun h => hdisj c h (by rw [hr]; exact List.mem_cons_self)
   have hci2 : c = i := by
    refine Classical.byContradiction fun hne => ?_
    have hcN : c < all.length := hlt c (by rw [he, hr]; simp)
    have hco : all[c]? = some all[c] := List.getElem?_eq_getElem hcN
    rcases hord c i _ o hco ho hci hne (.inl hcc) with h | h
    ·exact hin (inB_mem.1 ((hctop _ hco).reach hcl hco h))
    ·exact hcdn (hLd c (hrdy.reach hL ho h))
   subst hci2
   rw [hr] at hv
   unfold vopsM at hv
   rw [ho] at hv
   simp only [hcc, if_true] at hv
   obtain ⟨KK, hKK, hv⟩ : ∃ KK : Env → Store → Prop, (∀ e' S', KK e' S' → vopsM C X all ch ad K r e' S' ∧ (ad c = true → ∀ id q, S id = some q → S' id = some q)) ∧ vops C X all KK [o] (envL X all e0 vals (inB dn)) S := by
    cases had : ad c with
    | true =>
     rw [had] at hv
     exact ⟨_, fun e' S' h => ⟨h.2, fun _ => h.1⟩, hv⟩
    | false =>
     rw [had] at hv
     exact ⟨_, fun e' S' h => ⟨h, fun h => by cases h⟩, hv⟩
   obtain ⟨d, hdd, hdn, hmr0⟩ := chOk_parts (hch c o ho hcc)
   have hod : ods o = some d := ods_some hdd
   have hwr : ∀ t, t ∈ wrs X o ↔ t = d := fun t => by
    rw [mem_wrs, hod, hmr0]
    simp [eq_comm]
   have hag := fun t ht => agree2 (e0 := e0) (vals := vals) hdr hL hcl ho hrdy (hctop o ho) t ht
   have hgd : vguard all o (envL X all e0 vals L) = vguard all o (envL X all e0 vals (inB dn)) := vguard_congr fun j want d' hg hd' => hag d' (by
    unfold looks
    rw [hg]
    refine List.mem_append_right _ ?_
    dsimp only
    rw [hd']
    simp)
   have cont : ∀ (v : PV) (S' : Store), (ad c = true → ∀ id q, S id = some q → S' id = some q) → vopsM C X all ch ad K r ((envL X all e0 vals (inB dn)).put d v) S' → K' ((envL X all e0 vals L).put d v) S' := by
    intro v S' hsub hv'
    have hcl' : ClosedL all (inB (dn ++ [c])) := by
     intro j p hp hj k hk
     rw [inB_mem] at hj ⊢
     rcases List.mem_append.1 hj with hj | hj
     ·exact List.mem_append_left _ (inB_mem.1 (hcl j p hp (inB_mem.2 hj) k hk))
     ·have : j = c := by simpa using hj
      subst this
      rw [ho] at hp
      injection hp with hp
      subst hp
      exact List.mem_append_left _ (inB_mem.1 ((hctop o ho).2 k hk))
    obtain ⟨E, hE⟩ : ∃ E, E = (envL X all e0 vals (inB dn)).put d v := ⟨_, rfl⟩
    have hnv : ∀ k ∈ dn, (fun j => if j = c then E else vals j) k = vals k := fun k hk => by
     have : k ≠ c := fun h => hcdn (h ▸ hk)
     simp [this]
    have e1 : E = envL X all e0 (fun j => if j = c then E else vals j) (inB (dn ++ [c])) := by
     have h1 : envL X all e0 (fun j => if j = c then E else vals j) (inB dn) = envL X all e0 vals (inB dn) := envL_vals fun k hk => hnv k (inB_mem.1 hk)
     have h2 := envL_put (X := X) (e0 := e0) (vals := fun j => if j = c then E else vals j) (L := inB dn) ho (fun j p hj hp hw => by
      cases h : inB dn j with
      | false => rfl
      | true =>
       have := hcl.reach (hds c j o p ho hp hj hw) h
       rw [(hctop o ho).1] at this
       cases this)
     have h3 : E = upd X o ((fun j => if j = c then E else vals j) c) (envL X all e0 (fun j => if j = c then E else vals j) (inB dn)) := by
      rw [h1]
      funext t
      unfold upd
      by_cases ht : t ∈ wrs X o
      ·rw [if_pos ht]; simp
      ·rw [if_neg ht, hE]
       have : t ≠ d := fun h => ht ((hwr t).2 h)
       simp [Env.put, this]
     rw [h2] at h3
     refine h3.trans ?_
     congr 1
     funext j
     unfold inB
     by_cases hj : j = c
     ·subst hj; simp
     ·have : (j == c) = false := by simpa using hj
      simp [hj]
    rw [← hE, e1] at hv'
    obtain ⟨q, rest', vals', q1, q2, q3, q4, q5, q6, q7⟩ := seg hok r (dn ++ [c]) _ (by rw [he, hr]; simp) hcl' hv'
    have hvc : vals' c = E := by rw [q4 c (by simp)]; simp
    have hvd : ∀ k ∈ dn, vals' k = vals k := fun k hk => by rw [q4 k (List.mem_append_left _ hk)]; exact hnv k hk
    refine hK' _ _ ⟨dn ++ [c] ++ q, rest', vals', by rw [he, hr, q1]; simp, q6, fun k hk => ?_, fun k hk hc => ?_, ?_, fun k hk hc hl => ?_, q3, q7⟩
    ·simp only [Bool.or_eq_true, beq_iff_eq] at hk
     rcases hk with rfl | hk
     ·simp
     ·exact List.mem_append_left _ (List.mem_append_left _ (hLd k hk))
    ·rcases List.mem_append.1 hk with hk | hk
     ·rcases List.mem_append.1 hk with hk | hk
      ·simp [hdL k hk hc]
      ·have : k = c := by simpa using hk
       subst this
       simp
     ·rw [q2 k hk] at hc; cases hc
    ·have h1 : envL X all e0 vals' L = envL X all e0 vals L := envL_vals fun k hk => hvd k (hLd k hk)
     rw [← envL_put ho later, h1, hvc]
     funext t
     unfold upd
     by_cases ht : t ∈ wrs X o
     ·rw [if_pos ht, hE, (hwr t).1 ht]
      simp [Env.put]
     ·rw [if_neg ht]
      have : t ≠ d := fun h => ht ((hwr t).2 h)
      simp [Env.put, this]
    ·simp only [Bool.or_eq_false_iff, beq_eq_false_iff_ne, ne_eq] at hl
     rcases List.mem_append.1 hk with hk | hk
     ·rcases List.mem_append.1 hk with hk | hk
      ·have hR := (hpend k hk hc hl.2).vals (vals' := vals') (dn' := dn ++ [c] ++ q) (hvd k hk) hvd (fun x hx => List.mem_append_left _ (List.mem_append_left _ hx))
       obtain ⟨p, d1, v1, B, h1, h2, h3, h4, h5, h6, h7⟩ := hR
       have hrs : readsS p = false ∨ ((ad c || ad k) && isLoad p) = true := by
        cases hx : readsS p with
        | false => exact .inl rfl
        | true =>
         cases hy : ((ad c || ad k) && isLoad p) with
         | true => exact .inr rfl
         | false =>
          exfalso
          rcases hord k c p o h1 ho hcc hl.1 (.inr ⟨hx, hy⟩) with h | h
          ·exact hcdn (inB_mem.1 (hcl.reach h (inB_mem.2 hk)))
          ·have := hrdy.reach hL ho h
           rw [hl.2] at this
           cases this
       refine ⟨p, d1, v1, B, h1, h2, h3, h4, h5, h6, ?_⟩
       rcases h7 with ⟨g1, g2, g3, g4⟩ | h7
       ·refine .inl ⟨g1, g2, ⟨?_, g3.2⟩, g4⟩
        rcases hrs with hrs | hrs
        ·exact qop_store hrs g3.1
        ·rw [Bool.and_eq_true, Bool.or_eq_true] at hrs
         rcases hrs with ⟨h8 | h8, h9⟩
         ·exact qop_sub h9 (hsub h8) g3.1
         ·exact qop_sub h9 (fun _ _ h => by cases h) (g3.2 (by rw [h8, h9]; rfl))
       ·exact .inr h7
      ·exact absurd (by simpa using hk) hl.1
     ·exact q5 k hk
   unfold vops at hv ⊢
   rw [hgd]
   split
   ·rename_i hg
    rw [hg] at hv
    dsimp only at hv
    exact ch_frame (hch c o ho hcc) hdd (fun t ht => hag t (by unfold looks; exact List.mem_append_left _ ht)) hv fun v S' h => cont v S' (hKK _ _ h).2 (hKK _ _ h).1
   ·rename_i hg
    rw [hg] at hv
    dsimp only at hv
    split at hv
    ·rename_i hdo
     rw [if_pos hdo]
     rw [hdd] at hv ⊢
     exact cont (.tup []) S (fun _ _ _ h => h) (hKK _ _ hv).1
    ·exact hv.elim
   ·rename_i hg
    rw [hg] at hv
    exact hv.elim

theorem vdraw_mix {ops : Array Oper} {e : Env} {S : Store} (ch ad : Nat → Bool) (ord : List Nat) (hok : mixOk X ops.toList ch ad ord = true) (hv : vopsM C X ops.toList ch ad K ord e S) : vdraw C X ops K e S := by
 obtain ⟨hdr, hnd, hall, hlt, htop, hwait, hord, hch⟩ := mixOk_parts hok
 obtain ⟨hds, hpart, hsel⟩ := drawOk_parts hdr
 have hsz : ops.toList.length = ops.size := Array.length_toList
 have hL0 : (fun k => (Array.replicate ops.size false).getD k false) = fun _ => false := by
  funext k
  simp only [Array.getD]
  split <;> simp
 have he0 : ∀ (vals : Nat → Nat → PV) (L : Nat → Bool), (∀ i, L i = false) → envL X ops.toList e vals L = e := by
  intro vals L h
  funext t
  unfold envL
  split
  ·rename_i i hi
   have := (lastW_some hi).1
   rw [h i] at this
   cases this
  ·rfl
 refine vdraw_tree rfl (vtree_anyM (MixI C X ops.toList ch ad ord K e) (fun j o ho => (hpart j o (by rw [Array.getElem?_toList]; exact ho)).1) ?_ ?_ ops.size _ e S ?_ (by simp) ?_ ?_)
 ·intro i o ho L e' S' hcl hLi hdep hI K' hK'
  exact mix_step hok (by rw [Array.getElem?_toList]; exact ho) hcl ⟨hLi, hdep⟩ hI K' hK'
 ·rintro L e' S' hall' ⟨dn, rest, vals, he, hcl, hLd, hdL, rfl, hpend, hhead, hv⟩
  have hre : rest = [] := by
   rcases hhead with h | ⟨c, r, h, _⟩
   ·exact h
   ·exfalso
    have hcN : c < ops.toList.length := hlt c (by rw [he, h]; simp)
    have h1 := hLd c (hall' c (by omega))
    rw [he, List.nodup_append] at hnd
    exact hnd.2.2 c h1 c (by rw [h]; simp) rfl
  rw [hre] at hv
  have : envL X ops.toList e vals L = envL X ops.toList e vals (inB dn) := by
   funext t
   unfold envL
   rw [lastW_congr (M := inB dn)]
   intro j p hp _
   have hj := (List.getElem?_eq_some_iff.1 hp).1
   rw [hall' j (by omega), inB_mem.2 (hLd j (hall' j (by omega)))]
  rw [this]
  exact hv
 ·unfold left
  exact Nat.le_trans (List.length_filter_le _ _) (by simp)
 ·rw [hL0]
  intro j o _ h
  cases h
 ·rw [hL0]
  have hcl0 : ClosedL ops.toList (inB []) := fun j o _ h => by simp [inB] at h
  obtain ⟨q, rest', vals', q1, q2, q3, q4, q5, q6, q7⟩ := seg (K := K) (e0 := e) (S := S) hok ord [] (fun _ _ => .undef) rfl hcl0 (by rw [he0 _ _ (fun i => by simp [inB])]; exact hv)
  unfold MixI
  refine ⟨q, rest', vals', q1, by simpa using q6, ?_, ?_, (he0 _ _ (fun _ => rfl)).symm, ?_, q3, by simpa using q7⟩
  ·intro i h
   cases h
  ·intro i hi hc
   rw [q2 i hi] at hc
   cases hc
  ·intro i hi _ _
   simpa using q5 i hi
end

section
variable {C : Ctx} {X : Fx} {e : Env} {S : Store} {K : Env → Store → Prop} {all : List Oper} {ch ad : Nat → Bool} {is : List Nat}
def vMo (C : Ctx) (X : Fx) (all : List Oper) (ch ad : Nat → Bool) (K : Env → Store → Prop) (is : List Nat) (e : Env) (S : Store) : Bool → Bool → Option Oper → Prop
 | true, true, some o => vops C X all (fun e' S' => (∀ id c, S id = some c → S' id = some c) ∧ vopsM C X all ch ad K is e' S') [o] e S
 | true, false, some o => vops C X all (vopsM C X all ch ad K is) [o] e S
 | false, true, some o => if (true && isLoad o) = true then vopsQ C X all (fun e' _ => vopsM C X all ch ad K is e' S) [o] e S00 else vopsQ C X all (vopsM C X all ch ad K is) [o] e S
 | false, false, some o => vopsQ C X all (vopsM C X all ch ad K is) [o] e S
 | _, _, none => False
theorem x_M_nil : vopsM C X all ch ad K [] e S = K e S := rfl
theorem x_M_cons {i : Nat} : vopsM C X all ch ad K (i :: is) e S = vMo C X all ch ad K is e S (ch i) (ad i) all[i]? := by
 unfold vopsM
 cases all[i]? with
 | none => cases ch i <;> cases ad i <;> rfl
 | some o => cases ch i <;> cases ad i <;> rfl
theorem x_Mo_tt {o : Oper} : vMo C X all ch ad K is e S true true (some o) = vops C X all (fun e' S' => (∀ id c, S id = some c → S' id = some c) ∧ vopsM C X all ch ad K is e' S') [o] e S := rfl
theorem x_Mo_t {o : Oper} : vMo C X all ch ad K is e S true false (some o) = vops C X all (vopsM C X all ch ad K is) [o] e S := rfl
theorem x_Mo_f {o : Oper} : vMo C X all ch ad K is e S false false (some o) = vopsQ C X all (vopsM C X all ch ad K is) [o] e S := rfl
theorem x_Mo_ft {d : Option Nat} {t : TypeId} {x : Operand} {ty : TypeId} {p : String} {af : Array Edge} {gd : Option (Nat × Bool)} : vMo C X all ch ad K is e S false true (some ⟨d, .load t x, ty, p, af, gd⟩) = vopsQ C X all (fun e' _ => vopsM C X all ch ad K is e' S) [⟨d, .load t x, ty, p, af, gd⟩] e S00 := rfl
attribute [go_sem] x_M_nil x_M_cons x_Mo_tt x_Mo_t x_Mo_f x_Mo_ft
theorem vopsM_congr {e' : Env} {S' : Store} (h : e = e') (hS : S = S') : vopsM C X all ch ad K is e S = vopsM C X all ch ad K is e' S' := by rw [h, hS]
attribute [congr] vopsM_congr
/-- A region of free order, walked in an order of one's own choosing. -/
theorem vwp_mix {ops : Array Oper} {Q : Post} {n : Nat} {e : Env} {S : Store} (ch ad : Nat → Bool) (ord : List Nat) (hok : mixOk X ops.toList ch ad ord = true) (hv : vopsM C X ops.toList ch ad (Q .normal) ord e S) : vwp C X (.region n ops true) Q e S := vdraw_mix ch ad ord hok hv
/-- .. and behind it operations that wait for all ahead of them. -/
theorem vwp_mixtail {ops : Array Oper} {Q : Post} {n : Nat} {e : Env} {S : Store} (m : Nat) (ch ad : Nat → Bool) (ord : List Nat) (hok : mixOk X (ops.toList.take m) ch ad ord = true) (ht : tailOk (ops.toList.take m) (ops.toList.drop m) = true)
  (hv : vopsM C X (ops.toList.take m) ch ad (tailK C X (Q .normal) (ops.toList.drop m)) ord e S) : vwp C X (.region n ops true) Q e S := by
 have := vdraw_tail (K := Q .normal) (ops.toList.drop m) (ops.toList.take m) ht (vdraw_mix (ops := (ops.toList.take m).toArray) ch ad ord (by simpa using hok) (by simpa using hv))
 rw [List.take_append_drop] at this
 have h2 : vdraw C X ops (Q .normal) e S := by simpa using this
 exact h2
end
end Go.VL
