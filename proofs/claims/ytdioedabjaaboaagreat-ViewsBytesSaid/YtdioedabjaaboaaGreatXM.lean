/- Views: some views: begun, found, told. -/
import Derived.Test.YtdioedabjaaboaaGreatXL
set_option linter.unusedVariables false
set_option linter.unusedSimpArgs false
namespace Go.Proofs.YtdioedabjaaboaaGreat.V
open Go Go.VL

abbrev WT := List (Wv × Nat)
def encTs (T : WT) : List (List PV) := T.map fun t => encT t.1 t.2
@[go_sem] theorem len_encTs (T : WT) : (encTs T).length = T.length := by simp [encTs]
theorem getD_encTs {T : WT} {k : Nat} {t : Wv × Nat} (h : T[k]? = some t) : (encTs T).getD k [] = [.str t.1.name, .int .i64 t.1.kind, .str t.1.field, .str t.1.of_, .mref t.2] := by
 simp [encTs, List.getD_eq_getElem?_getD, h, encT]
theorem encTs_one (T : WT) (w : Wv) (g : Nat) : encTs T ++ [[.str w.name, .int .i64 w.kind, .str w.field, .str w.of_, .mref g]] = encTs (T ++ [(w, g)]) := by simp [encTs, encT]
structure Vs (S : Store) (vid : Nat) (T : WT) (P : List Pr) : Prop where
 at_ : S vid = some [.sl .no 5 (encTs T), .bool true]
 tabs : ∀ t ∈ T, ∃ kd, Tab S t.1 t.2 P kd
theorem Vs.keep {S S' : Store} {vid : Nat} {T : WT} {P : List Pr} (h : Vs S vid T P) (hk : ∀ id x, S id = some x → S' id = some x) : Vs S' vid T P :=
 ⟨hk _ _ h.at_, fun t ht => let ⟨kd, hkd⟩ := h.tabs t ht; ⟨kd, hkd.keep hk⟩⟩

/-! ### Check -/
def ofQ (w : Wv) : Bool := if w.kind = 3 then nameQ w.of_ else same w.of_ ⟨#[]⟩
def vcheck (w : Wv) : Int := if nameQ w.name then (if nameQ w.field then (if ofQ w then (if w.kind < 1 ∨ 3 < w.kind then 1 else 0) else 22) else 22) else 22
theorem c0 : ((0 : Int) == 0) = true := rfl
theorem c22 : ((22 : Int) == 0) = false := rfl
theorem n0 : ((0 : Int) != 0) = false := rfl
theorem n22 : ((22 : Int) != 0) = true := rfl
theorem VCheck_spec (w : Wv) (S : Store) : PRet Tryz.prog 20 [.agg (encW w)] S (.int .i64 (vcheck w)) := by
 intro K hK
 refine pcalls_of (C := C) (fun _ => false) (fun _ => false) Tryz.func20 rfl rfl (by simp [Tryz.f20]) ?_
 unfold encW
 have fin : ∀ (e : Env) (q : Bool) (hq : q = ofQ w), True := fun _ _ _ => trivial
 by_cases k3 : w.kind = 3
 ·have d3 : (w.kind == 3) = true := by rw [k3]; rfl
  have l1 : ¬ w.kind < 1 := by omega
  have l3 : ¬ (3 : Int) < w.kind := by omega
  have hof : ofQ w = nameQ w.of_ := by unfold ofQ; rw [if_pos k3]
  unfold vcheck at hK
  rw [hof, if_neg (show ¬ (w.kind < 1 ∨ 3 < w.kind) by omega)] at hK
  simp -implicitDefEqProofs only [go_sem, ↓reduceIte, Nat.reduceEqDiff, Nat.reduceLT, Nat.reduceLeDiff, Nat.reduceAdd, Nat.reduceMul, Nat.reduceSub, reduceCtorEq, Nat.reduceMod, Nat.reduceBEq, Int.reduceBEq, Int.reduceBNe, Int.reduceToNat, Tryz.f20, d3]
  refine name_spec _ _ _ ?_
  cases ho : nameQ w.of_
  all_goals
   rw [ho] at hK
   simp -implicitDefEqProofs only [go_sem, ↓reduceIte, Nat.reduceEqDiff, Nat.reduceLT, Nat.reduceLeDiff, Nat.reduceAdd, Nat.reduceMul, Nat.reduceSub, reduceCtorEq, Nat.reduceMod, Nat.reduceBEq, Int.reduceBEq, Int.reduceBNe, Int.reduceToNat, c0, c22, Bool.false_eq_true]
   refine name_spec _ _ _ ?_
   cases hn : nameQ w.name
   ·rw [hn] at hK
    simp -implicitDefEqProofs only [go_sem, ↓reduceIte, Nat.reduceEqDiff, Nat.reduceLT, Nat.reduceLeDiff, Nat.reduceAdd, Nat.reduceMul, Nat.reduceSub, reduceCtorEq, Nat.reduceMod, Nat.reduceBEq, Int.reduceBEq, Int.reduceBNe, Int.reduceToNat, n0, n22, Bool.false_eq_true]
    exact ⟨S, fun _ _ h => h, hK⟩
   ·simp -implicitDefEqProofs only [go_sem, ↓reduceIte, Nat.reduceEqDiff, Nat.reduceLT, Nat.reduceLeDiff, Nat.reduceAdd, Nat.reduceMul, Nat.reduceSub, reduceCtorEq, Nat.reduceMod, Nat.reduceBEq, Int.reduceBEq, Int.reduceBNe, Int.reduceToNat, n0, n22, Bool.false_eq_true]
    refine name_spec _ _ _ ?_
    cases hf : nameQ w.field
    ·rw [hn, hf] at hK
     simp -implicitDefEqProofs only [go_sem, ↓reduceIte, Nat.reduceEqDiff, Nat.reduceLT, Nat.reduceLeDiff, Nat.reduceAdd, Nat.reduceMul, Nat.reduceSub, reduceCtorEq, Nat.reduceMod, Nat.reduceBEq, Int.reduceBEq, Int.reduceBNe, Int.reduceToNat, n0, n22, Bool.false_eq_true]
     exact ⟨S, fun _ _ h => h, hK⟩
    ·rw [hn, hf] at hK
     simp -implicitDefEqProofs only [go_sem, ↓reduceIte, Nat.reduceEqDiff, Nat.reduceLT, Nat.reduceLeDiff, Nat.reduceAdd, Nat.reduceMul, Nat.reduceSub, reduceCtorEq, Nat.reduceMod, Nat.reduceBEq, Int.reduceBEq, Int.reduceBNe, Int.reduceToNat, n0, n22, l1, l3]
     exact ⟨S, fun _ _ h => h, hK⟩
 ·have d3 : (w.kind == 3) = false := beq_eq_false_iff_ne.2 k3
  have hof : ofQ w = same w.of_ ⟨#[]⟩ := by unfold ofQ; rw [if_neg k3]
  unfold vcheck at hK
  rw [hof] at hK
  simp -implicitDefEqProofs only [go_sem, ↓reduceIte, Nat.reduceEqDiff, Nat.reduceLT, Nat.reduceLeDiff, Nat.reduceAdd, Nat.reduceMul, Nat.reduceSub, reduceCtorEq, Nat.reduceMod, Nat.reduceBEq, Int.reduceBEq, Int.reduceBNe, Int.reduceToNat, Tryz.f20, d3]
  refine name_spec _ _ _ ?_
  cases hn : nameQ w.name
  ·rw [hn] at hK
   simp -implicitDefEqProofs only [go_sem, ↓reduceIte, Nat.reduceEqDiff, Nat.reduceLT, Nat.reduceLeDiff, Nat.reduceAdd, Nat.reduceMul, Nat.reduceSub, reduceCtorEq, Nat.reduceMod, Nat.reduceBEq, Int.reduceBEq, Int.reduceBNe, Int.reduceToNat, n0, n22, Bool.false_eq_true]
   exact ⟨S, fun _ _ h => h, hK⟩
  ·simp -implicitDefEqProofs only [go_sem, ↓reduceIte, Nat.reduceEqDiff, Nat.reduceLT, Nat.reduceLeDiff, Nat.reduceAdd, Nat.reduceMul, Nat.reduceSub, reduceCtorEq, Nat.reduceMod, Nat.reduceBEq, Int.reduceBEq, Int.reduceBNe, Int.reduceToNat, n0, n22, Bool.false_eq_true]
   refine name_spec _ _ _ ?_
   cases hf : nameQ w.field
   ·rw [hn, hf] at hK
    simp -implicitDefEqProofs only [go_sem, ↓reduceIte, Nat.reduceEqDiff, Nat.reduceLT, Nat.reduceLeDiff, Nat.reduceAdd, Nat.reduceMul, Nat.reduceSub, reduceCtorEq, Nat.reduceMod, Nat.reduceBEq, Int.reduceBEq, Int.reduceBNe, Int.reduceToNat, n0, n22, Bool.false_eq_true]
    exact ⟨S, fun _ _ h => h, hK⟩
   ·cases ho : same w.of_ ⟨#[]⟩
    ·rw [hn, hf, ho] at hK
     simp -implicitDefEqProofs only [go_sem, ↓reduceIte, Nat.reduceEqDiff, Nat.reduceLT, Nat.reduceLeDiff, Nat.reduceAdd, Nat.reduceMul, Nat.reduceSub, reduceCtorEq, Nat.reduceMod, Nat.reduceBEq, Int.reduceBEq, Int.reduceBNe, Int.reduceToNat, n0, n22, ho, Bool.false_eq_true]
     exact ⟨S, fun _ _ h => h, hK⟩
    ·rw [hn, hf, ho] at hK
     by_cases l1 : w.kind < 1
     ·rw [if_pos (show (w.kind < 1 ∨ 3 < w.kind) from .inl l1)] at hK
      simp -implicitDefEqProofs only [go_sem, ↓reduceIte, Nat.reduceEqDiff, Nat.reduceLT, Nat.reduceLeDiff, Nat.reduceAdd, Nat.reduceMul, Nat.reduceSub, reduceCtorEq, Nat.reduceMod, Nat.reduceBEq, Int.reduceBEq, Int.reduceBNe, Int.reduceToNat, n0, n22, ho, l1]
      exact ⟨S, fun _ _ h => h, hK⟩
     ·by_cases l3 : (3 : Int) < w.kind
      ·rw [if_pos (show (w.kind < 1 ∨ 3 < w.kind) from .inr l3)] at hK
       simp -implicitDefEqProofs only [go_sem, ↓reduceIte, Nat.reduceEqDiff, Nat.reduceLT, Nat.reduceLeDiff, Nat.reduceAdd, Nat.reduceMul, Nat.reduceSub, reduceCtorEq, Nat.reduceMod, Nat.reduceBEq, Int.reduceBEq, Int.reduceBNe, Int.reduceToNat, n0, n22, ho, l1, l3]
       exact ⟨S, fun _ _ h => h, hK⟩
      ·rw [if_neg (show ¬ (w.kind < 1 ∨ 3 < w.kind) by omega)] at hK
       simp -implicitDefEqProofs only [go_sem, ↓reduceIte, Nat.reduceEqDiff, Nat.reduceLT, Nat.reduceLeDiff, Nat.reduceAdd, Nat.reduceMul, Nat.reduceSub, reduceCtorEq, Nat.reduceMod, Nat.reduceBEq, Int.reduceBEq, Int.reduceBNe, Int.reduceToNat, n0, n22, ho, l1, l3]
       exact ⟨S, fun _ _ h => h, hK⟩

/-! ### where a view stands -/
def whereF (name : ByteArray) : WT → Nat → Int
 | [], _ => -1
 | t :: T, i => if same t.1.name name then (i : Int) else whereF name T (i + 1)
theorem whereF_eq {name : ByteArray} {T : WT} {k : Nat} {t : Wv × Nat} (h : T[k]? = some t) (hs : same t.1.name name = true) : whereF name (T.drop k) k = k := by
 rw [drop_cons h]; unfold whereF; rw [if_pos hs]
theorem whereF_ne {name : ByteArray} {T : WT} {k : Nat} {t : Wv × Nat} (h : T[k]? = some t) (hs : same t.1.name name = false) : whereF name (T.drop k) k = whereF name (T.drop (k + 1)) (k + 1) := by
 rw [drop_cons h]
 show (if same t.1.name name = true then (k : Int) else whereF name (T.drop (k + 1)) (k + 1)) = _
 rw [hs]; rfl
theorem find1_spec (w : Wv) (g : Nat) (name : ByteArray) (S : Store) : PRet Tryz.prog 105 [.agg [.str w.name, .int .i64 w.kind, .str w.field, .str w.of_, .mref g], .ip [.str name] 0] S (.bool (same w.name name)) := by
 intro K hK
 refine pcalls_of (C := C) (fun _ => false) (fun _ => false) Tryz.func105 rfl rfl (by simp [Tryz.f105]) ?_
 simp -implicitDefEqProofs only [go_sem, ↓reduceIte, Nat.reduceEqDiff, Nat.reduceLT, Nat.reduceLeDiff, Nat.reduceAdd, Nat.reduceMul, Nat.reduceSub, reduceCtorEq, Nat.reduceMod, Nat.reduceBEq, Int.reduceBEq, Int.reduceBNe, Int.reduceToNat, Tryz.f105]
 exact ⟨S, fun _ _ h => h, hK⟩
theorem IndexFunc_spec (name : ByteArray) (T : WT) (hT : T.length ≤ 1000000) (S : Store) : PRet Tryz.prog 104 [.sl .no 5 (encTs T), .fn (.func 105) [] [.ip [.str name] 0]] S (.int .i64 (whereF name T 0)) := by
 intro K hK
 refine pcalls_of (C := C) (fun _ => false) (fun _ => false) Tryz.func104 rfl rfl (by simp [Tryz.f104]) ?_
 simp -implicitDefEqProofs only [go_sem, ↓reduceIte, Nat.reduceEqDiff, Nat.reduceLT, Nat.reduceLeDiff, Nat.reduceAdd, Nat.reduceMul, Nat.reduceSub, reduceCtorEq, Nat.reduceMod, Nat.reduceBEq, Int.reduceBEq, Int.reduceBNe, Int.reduceToNat, Tryz.f104]
 refine vloop (fun e S' => S' = S ∧ ∃ k : Nat, k ≤ T.length ∧ whereF name T 0 = whereF name (T.drop k) k ∧ e 0 = .sl .no 5 (encTs T) ∧ e 1 = .fn (.func 105) [] [.ip [.str name] 0] ∧ e 7 = .int .i64 T.length ∧ e 8 = .int .i64 k) (fun e _ => T.length - iv (e 8)) ?_ ?_
 ·exact ⟨rfl, 0, Nat.zero_le _, rfl, rfl, rfl, rfl, rfl⟩
 ·rintro J M Q' hJ hM hQ e S' ⟨rfl, k, hk, hr, e0, e1, e7, e8⟩
  by_cases hlt : k < T.length
  ·obtain ⟨t, ht⟩ : ∃ t, T[k]? = some t := ⟨T[k], List.getElem?_eq_getElem hlt⟩
   have hlti : (k : Int) < (T.length : Int) := by omega
   have h0 : (0 : Int) ≤ (k : Int) ∧ (k : Int) < (T.length : Int) := by omega
   have hw : IntKind.i64.wrap ((k : Int) + 1) = ((k + 1 : Nat) : Int) := wrap64 (by omega) (by omega)
   simp -implicitDefEqProofs only [go_sem, ↓reduceIte, Nat.reduceEqDiff, Nat.reduceLT, Nat.reduceLeDiff, Nat.reduceAdd, Nat.reduceMul, Nat.reduceSub, reduceCtorEq, Nat.reduceMod, Nat.reduceBEq, Int.reduceBEq, Int.reduceBNe, Int.reduceToNat, e0, e1, e7, e8, hlti, h0, Int.toNat_natCast, getD_encTs ht]
   refine find1_spec t.1 t.2 name _ _ ?_
   cases hs : same t.1.name name
   ·simp -implicitDefEqProofs only [go_sem, ↓reduceIte, Nat.reduceEqDiff, Nat.reduceLT, Nat.reduceLeDiff, Nat.reduceAdd, Nat.reduceMul, Nat.reduceSub, reduceCtorEq, Nat.reduceMod, Nat.reduceBEq, Int.reduceBEq, Int.reduceBNe, Int.reduceToNat, Bool.false_eq_true, e8, hw]
    rw [whereF_ne ht hs] at hr
    refine vnext hJ hM S' (fun _ _ h => h) ⟨rfl, k + 1, hlt, hr, ?_, ?_, ?_, ?_⟩ ?_
    ·simp -implicitDefEqProofs only [go_sem, ↓reduceIte, Nat.reduceEqDiff, e0]
    ·simp -implicitDefEqProofs only [go_sem, ↓reduceIte, Nat.reduceEqDiff, e1]
    ·simp -implicitDefEqProofs only [go_sem, ↓reduceIte, Nat.reduceEqDiff, e7]
    ·simp -implicitDefEqProofs only [go_sem, ↓reduceIte, Nat.reduceEqDiff]
    ·simp -implicitDefEqProofs only [go_sem, ↓reduceIte, Nat.reduceEqDiff, e8, Int.toNat_natCast]
     omega
   ·rw [whereF_eq ht hs] at hr
    rw [hr] at hK
    simp -implicitDefEqProofs only [go_sem, ↓reduceIte, Nat.reduceEqDiff, Nat.reduceLT, Nat.reduceLeDiff, Nat.reduceAdd, Nat.reduceMul, Nat.reduceSub, reduceCtorEq, Nat.reduceMod, Nat.reduceBEq, Int.reduceBEq, Int.reduceBNe, Int.reduceToNat]
    refine hQ _ _ _ ?_
    simp -implicitDefEqProofs only [go_sem, ↓reduceIte, Nat.reduceEqDiff, Nat.reduceLT, Nat.reduceLeDiff, Nat.reduceAdd, Nat.reduceMul, Nat.reduceSub, reduceCtorEq, Nat.reduceMod, Nat.reduceBEq, Int.reduceBEq, Int.reduceBNe, Int.reduceToNat]
    exact ⟨S', fun _ _ h => h, hK⟩
  ·have hnl : ¬ (k : Int) < (T.length : Int) := by omega
   rw [List.drop_of_length_le (by omega)] at hr
   have hm : whereF name T 0 = -1 := hr
   rw [hm] at hK
   simp -implicitDefEqProofs only [go_sem, ↓reduceIte, Nat.reduceEqDiff, Nat.reduceLT, Nat.reduceLeDiff, Nat.reduceAdd, Nat.reduceMul, Nat.reduceSub, reduceCtorEq, Nat.reduceMod, Nat.reduceBEq, Int.reduceBEq, Int.reduceBNe, Int.reduceToNat, e7, e8, hnl]
   refine hQ _ _ _ ?_
   simp -implicitDefEqProofs only [go_sem, ↓reduceIte, Nat.reduceEqDiff, Nat.reduceLT, Nat.reduceLeDiff, Nat.reduceAdd, Nat.reduceMul, Nat.reduceSub, reduceCtorEq, Nat.reduceMod, Nat.reduceBEq, Int.reduceBEq, Int.reduceBNe, Int.reduceToNat]
   exact ⟨S', fun _ _ h => h, hK⟩
theorem _root_.Go.VL.x_p_mkf {C : Ctx} {dd : Option Nat} {fn : Fn} {xs cs : Array Operand} {ty : TypeId} {p : String} {af : Array Edge} {gd : Option (Nat × Bool)} {e : Env} : pop C ⟨dd, .makeFunc fn xs cs, ty, p, af, gd⟩ e = some (.fn fn (xs.toList.map fun x => (ev x e).bare) (cs.toList.map fun x => (ev x e).bare)) := rfl
theorem VFind_spec {S : Store} {vid : Nat} {T : WT} {P : List Pr} (h : Vs S vid T P) (hT : T.length ≤ 1000000) (name : ByteArray) : PRet Tryz.prog 79 [.ref vid 0, .str name] S (.int .i64 (whereF name T 0)) := by
 intro K hK
 refine pcalls_of (C := C) (fun _ => false) (fun _ => false) Tryz.func79 rfl rfl (by simp [Tryz.f79]) ?_
 simp -implicitDefEqProofs only [go_sem, ↓reduceIte, Nat.reduceEqDiff, Nat.reduceLT, Nat.reduceLeDiff, Nat.reduceAdd, Nat.reduceMul, Nat.reduceSub, reduceCtorEq, Nat.reduceMod, Nat.reduceBEq, Int.reduceBEq, Int.reduceBNe, Int.reduceToNat, Tryz.f79, h.at_, x_p_mkf, List.map_nil, List.map_cons]
 refine IndexFunc_spec name T hT _ _ ?_
 simp -implicitDefEqProofs only [go_sem, ↓reduceIte, Nat.reduceEqDiff, Nat.reduceLT, Nat.reduceLeDiff, Nat.reduceAdd, Nat.reduceMul, Nat.reduceSub, reduceCtorEq, Nat.reduceMod, Nat.reduceBEq, Int.reduceBEq, Int.reduceBNe, Int.reduceToNat]
 exact ⟨S, fun _ _ h => h, hK⟩
theorem dead_spec {S : Store} {vid : Nat} {T : WT} {P : List Pr} (h : Vs S vid T P) : PRet Tryz.prog 63 [.ref vid 0] S (.bool false) := by
 intro K hK
 refine pcalls_of (C := C) (fun _ => false) (fun _ => false) Tryz.func63 rfl rfl (by simp [Tryz.f63]) ?_
 simp -implicitDefEqProofs only [go_sem, ↓reduceIte, Nat.reduceEqDiff, Nat.reduceLT, Nat.reduceLeDiff, Nat.reduceAdd, Nat.reduceMul, Nat.reduceSub, reduceCtorEq, Nat.reduceMod, Nat.reduceBEq, Int.reduceBEq, Int.reduceBNe, Int.reduceToNat, Tryz.f63, h.at_]
 exact ⟨S, fun _ _ h => h, hK⟩
theorem VNew_calls (S : Store) (K : PV → Store → Prop) (hK : ∀ id, S id = none → K (.ref id 0) (S.set id (some [.sl .no 5 [], .bool true]))) : PCalls Tryz.prog 57 [] S K := by
 refine pcalls_of (C := C) (fun _ => false) (fun d => d == 2) Tryz.func57 rfl rfl (by simp [Tryz.f57]) ?_
 simp -implicitDefEqProofs only [go_sem, ↓reduceIte, Nat.reduceEqDiff, Nat.reduceLT, Nat.reduceLeDiff, Nat.reduceAdd, Nat.reduceMul, Nat.reduceSub, reduceCtorEq, Nat.reduceMod, Nat.reduceBEq, Int.reduceBEq, Int.reduceBNe, Int.reduceToNat, Tryz.f57]
 intro id hid
 exact ⟨_, fun _ _ h => h, hK id hid⟩
theorem Vs.nil (S : Store) (vid : Nat) (P : List Pr) : Vs (S.set vid (some [.sl .no 5 [], .bool true])) vid [] P := ⟨set_at _ _ _, fun t ht => by cases ht⟩
theorem VRows_at {S : Store} {vid : Nat} {T : WT} {P : List Pr} (h : Vs S vid T P) (hT : T.length ≤ 1000000) (hP : P.length ≤ 1000000) (hf : FitK P) (hn : (P.map Prod.fst).Nodup) (name : ByteArray) {j : Nat} (hw : whereF name T 0 = (j : Int)) {t : Wv × Nat} (ht : T[j]? = some t) :
  PRet Tryz.prog 43 [.ref vid 0, .str name] S (.tup [.sl .no 3 (encRVs (rowsOf t.1 P)), .int .i64 0]) := by
 intro K hK
 obtain ⟨kd, hkd⟩ := h.tabs t (List.mem_of_getElem? ht)
 have hlt : j < T.length := (List.getElem?_eq_some_iff.1 ht).1
 have hj : ¬ (j : Int) < 0 := by omega
 have h0 : (0 : Int) ≤ (j : Int) ∧ (j : Int) < (T.length : Int) := by omega
 refine pcalls_of (C := C) (fun _ => false) (fun _ => false) Tryz.func43 rfl rfl (by simp [Tryz.f43]) ?_
 simp -implicitDefEqProofs only [go_sem, ↓reduceIte, Nat.reduceEqDiff, Nat.reduceLT, Nat.reduceLeDiff, Nat.reduceAdd, Nat.reduceMul, Nat.reduceSub, reduceCtorEq, Nat.reduceMod, Nat.reduceBEq, Int.reduceBEq, Int.reduceBNe, Int.reduceToNat, Tryz.f43]
 refine dead_spec h _ ?_
 simp -implicitDefEqProofs only [go_sem, ↓reduceIte, Nat.reduceEqDiff, Nat.reduceLT, Nat.reduceLeDiff, Nat.reduceAdd, Nat.reduceMul, Nat.reduceSub, reduceCtorEq, Nat.reduceMod, Nat.reduceBEq, Int.reduceBEq, Int.reduceBNe, Int.reduceToNat, Bool.false_eq_true]
 refine VFind_spec h hT name _ ?_
 rw [hw]
 simp -implicitDefEqProofs only [go_sem, ↓reduceIte, Nat.reduceEqDiff, Nat.reduceLT, Nat.reduceLeDiff, Nat.reduceAdd, Nat.reduceMul, Nat.reduceSub, reduceCtorEq, Nat.reduceMod, Nat.reduceBEq, Int.reduceBEq, Int.reduceBNe, Int.reduceToNat, hj, h.at_, h0, Int.toNat_natCast, getD_encTs ht]
 refine rows_spec hkd hP hf hn _ ?_
 simp -implicitDefEqProofs only [go_sem, ↓reduceIte, Nat.reduceEqDiff, Nat.reduceLT, Nat.reduceLeDiff, Nat.reduceAdd, Nat.reduceMul, Nat.reduceSub, reduceCtorEq, Nat.reduceMod, Nat.reduceBEq, Int.reduceBEq, Int.reduceBNe, Int.reduceToNat]
 exact ⟨S, fun _ _ h => h, hK⟩
end Go.Proofs.YtdioedabjaaboaaGreat.V
