/- Maps: set; two lists alike; the examples. -/
import Derived.Test.YtdioedabjaaboaaGreatKH
set_option linter.unusedVariables false
set_option linter.unusedSimpArgs false
namespace Go.Proofs.YtdioedabjaaboaaGreat.V
open Go Go.VL

theorem _root_.Go.VL.PCalls.unflag {P : Program} {f : FuncId} {args : List PV} {S : Store} {K : PV → Store → Prop} (h : PCalls P f (args.map PV.bare) S K) : PCalls P f args S K := by
 have e : ∀ t, argEnv (args.map PV.bare) t = (argEnv args t).bare := fun t => by
  unfold argEnv
  rw [List.getD_eq_getElem?_getD, List.getD_eq_getElem?_getD, List.getElem?_map]
  cases args[t]? <;> rfl
 refine ⟨h.1, fun g w rargs hst => h.2 g w rargs ⟨by rw [List.length_map]; exact hst.size, fun t ht => ?_, fun t ht => ?_, hst.objs, hst.new⟩⟩
 ·rw [e]
  exact (hst.slots t (by rwa [List.length_map] at ht)).bare
 ·rw [e, hst.beyond t (by rwa [List.length_map] at ht)]
  rfl

theorem EqualO_refl (L : List KO) (hL : L.length ≤ 1000000) (S : Store) : PRet Tryz.prog 29 [.sl .no 3 (encOs L), .sl .no 3 (encOs L)] S (.bool true) := by
 intro K hK
 refine pcalls_of (C := C) (fun _ => false) (fun _ => false) Tryz.func29 rfl rfl (by simp [Tryz.f29]) ?_
 simp -implicitDefEqProofs only [go_sem, ↓reduceIte, Nat.reduceEqDiff, Nat.reduceLT, Nat.reduceLeDiff, Nat.reduceAdd, Nat.reduceMul, Nat.reduceSub, reduceCtorEq, Nat.reduceMod, Nat.reduceBEq, Int.reduceBEq, Int.reduceBNe, Int.reduceToNat, Tryz.f29]
 refine vloop (fun e S' => S' = S ∧ ∃ (k : Nat), k ≤ L.length ∧ e 0 = .sl .no 3 (encOs L) ∧ e 1 = .sl .no 3 (encOs L) ∧ e 12 = .int .i64 L.length ∧ e 13 = .int .i64 k) (fun e _ => L.length - iv (e 13)) ?_ ?_
 ·exact ⟨rfl, 0, Nat.zero_le _, rfl, rfl, rfl, rfl⟩
 ·rintro J M Q' hJ hM hQ e S' ⟨rfl, k, hk, e0, e1, e12, e13⟩
  by_cases hlt : k < L.length
  ·obtain ⟨p, hp⟩ : ∃ p, L[k]? = some p := ⟨_, List.getElem?_eq_getElem hlt⟩
   have hin : (0 : Int) ≤ k ∧ (k : Int) < L.length := by omega
   have hk1 : IntKind.i64.wrap ((k : Int) + 1) = ((k + 1 : Nat) : Int) := wrap64 (by omega) (by omega)
   simp -implicitDefEqProofs only [go_sem, ↓reduceIte, Nat.reduceEqDiff, Nat.reduceLT, Nat.reduceLeDiff, Nat.reduceAdd, Nat.reduceMul, Nat.reduceSub, reduceCtorEq, Nat.reduceMod, Nat.reduceBEq, Int.reduceBEq, Int.reduceBNe, Int.reduceToNat, hin, hlt, e12, e13]
   refine vwp_draw (by decide +kernel) ?_
   simp -implicitDefEqProofs only [go_sem, ↓reduceIte, Nat.reduceEqDiff, Nat.reduceLT, Nat.reduceLeDiff, Nat.reduceAdd, Nat.reduceMul, Nat.reduceSub, reduceCtorEq, Nat.reduceMod, Nat.reduceBEq, Int.reduceBEq, Int.reduceBNe, Int.reduceToNat, hin, e0, e1, e12, e13, getD_encOs hp, hk1, Bool.and_self, beq_self_eq_true]
   refine vnext hJ hM S' (fun _ _ h => h) ⟨rfl, k + 1, hlt, ?_, ?_, ?_, ?_⟩ ?_
   ·simp -implicitDefEqProofs only [go_sem, ↓reduceIte, Nat.reduceEqDiff, e0]
   ·simp -implicitDefEqProofs only [go_sem, ↓reduceIte, Nat.reduceEqDiff, e1]
   ·simp -implicitDefEqProofs only [go_sem, ↓reduceIte, Nat.reduceEqDiff, e12]
   ·simp -implicitDefEqProofs only [go_sem, ↓reduceIte, Nat.reduceEqDiff]
   ·simp -implicitDefEqProofs only [go_sem, ↓reduceIte, Nat.reduceEqDiff]
    omega
  ·have hcc : ¬ (k : Int) < L.length := by omega
   simp -implicitDefEqProofs only [go_sem, ↓reduceIte, Nat.reduceEqDiff, Nat.reduceLT, Nat.reduceLeDiff, Nat.reduceAdd, Nat.reduceMul, Nat.reduceSub, reduceCtorEq, Nat.reduceMod, Nat.reduceBEq, Int.reduceBEq, Int.reduceBNe, Int.reduceToNat, hcc, e12, e13]
   refine hQ _ _ _ ?_
   simp -implicitDefEqProofs only [go_sem, ↓reduceIte, Nat.reduceEqDiff, Nat.reduceLT, Nat.reduceLeDiff, Nat.reduceAdd, Nat.reduceMul, Nat.reduceSub, reduceCtorEq, Nat.reduceMod, Nat.reduceBEq, Int.reduceBEq, Int.reduceBNe, Int.reduceToNat]
   exact ⟨S', fun _ _ h => h, hK⟩
/-! ### the examples -/
theorem ltd (a b : ByteArray) : lt a b = Op.bytesLess a.data.toList b.data.toList := by unfold lt; rw [ByteArray.toList_eq, ByteArray.toList_eq]
abbrev b1 : ByteArray := ⟨#[49]⟩
abbrev b2 : ByteArray := ⟨#[50]⟩
abbrev b3 : ByteArray := ⟨#[51]⟩
end Go.Proofs.YtdioedabjaaboaaGreat.V
namespace Go.Proofs.YtdioedabjaaboaaGreat.V
open Go Go.VL

end Go.Proofs.YtdioedabjaaboaaGreat.V
namespace Go.Proofs.YtdioedabjaaboaaGreat.V
open Go Go.VL

theorem look_drop {k x : ByteArray} (h : same k x = false) : ∀ L : List Pr, look x (dropL k L) = look x L
 | [] => rfl
 | p :: L => by
  have ih := look_drop h L
  unfold dropL at ih ⊢
  rw [List.filter_cons]
  cases c : same p.1 k
  ·simp only [Bool.not_false, if_true, look, ih]
  ·have := same_iff.1 c
   simp only [Bool.not_true, Bool.false_eq_true, if_false, look, this, h, ih]
theorem look_put_ne {L : List Pr} (hs : Sorted L) {k x : ByteArray} (h : same k x = false) (v : ByteArray) : look x (putL k v L) = look x L := by
 rw [← look_drop h L, drop_two hs, putL, look_app, look_app, look, h]
 simp
theorem look_evDo {L : List Pr} (hs : Sorted L) {e : KV} {x : ByteArray} (h : same e.k x = false) : look x (evDo L e) = look x L := by
 unfold evDo
 split
 ·exact look_put_ne hs h _
 ·exact look_drop h L

/-- Each event tells what its key had just ahead of it, and that something changed. -/
def told (L : List Pr) : List KV → Prop
 | [] => True
 | e :: E => (e.had = hasQ L e.k ∧ e.old = getQ L e.k ∧ (e.had == e.has && same e.old e.now) = false) ∧ told (evDo L e) E
theorem told_get : ∀ (E : List KV) (L : List Pr) (k : Nat) (e : KV), told L E → E[k]? = some e →
  e.had = hasQ (takeF L (E.take k)) e.k ∧ e.old = getQ (takeF L (E.take k)) e.k ∧ (e.had == e.has && same e.old e.now) = false
 | [], L, k, e, _, h => by simp at h
 | x :: E, L, 0, e, h1, h => by
  simp at h
  subst h
  exact h1.1
 | x :: E, L, k + 1, e, h1, h => told_get E (evDo L x) k e h1.2 (by simpa using h)
theorem right_dist : ∀ (l pre : List KO), rightF pre l = 0 → l.Pairwise (fun a b => same a.k b.k = false) ∧ ∀ o ∈ l, seenQ o.k pre = false
 | [], pre, _ => ⟨.nil, by simp⟩
 | o :: l, pre, h => by
  unfold rightF at h
  split at h
  ·split at h
   ·cases h
   ·split at h
    ·cases h
    ·rename_i hs
     obtain ⟨h1, h2⟩ := right_dist l (pre ++ [o]) h
     have h3 : ∀ x ∈ l, seenQ x.k pre = false ∧ same o.k x.k = false := fun x hx => by
      have := h2 x hx
      rw [seenQ_snoc] at this
      simpa using this
     refine ⟨List.pairwise_cons.2 ⟨fun x hx => (h3 x hx).2, h1⟩, fun x hx => ?_⟩
     rcases List.mem_cons.1 hx with rfl | hx
     ·simpa using hs
     ·exact (h3 x hx).1
  ·cases h
theorem plan_told (L : List Pr) (pos : Int) : ∀ (ops : List KO) (L' : List Pr), Sorted L' → (∀ o ∈ ops, look o.k L' = look o.k L) → ops.Pairwise (fun a b => same a.k b.k = false) → told L' (planE L pos ops)
 | [], L', _, _, _ => trivial
 | o :: ops, L', hs, hl, hp => by
  obtain ⟨p1, p2⟩ := List.pairwise_cons.1 hp
  have ho := hl o List.mem_cons_self
  unfold planE
  rw [List.flatMap_cons]
  unfold evOf
  cases c : condQ L o
  ·simp only [Bool.false_eq_true, if_false]
   refine ⟨⟨?_, ?_, c⟩, plan_told L pos ops _ (evDo_sorted hs _) (fun x hx => ?_) p2⟩
   ·show hasQ L o.k = hasQ L' o.k
    unfold hasQ
    rw [ho]
   ·show getQ L o.k = getQ L' o.k
    unfold getQ
    rw [ho]
   ·rw [look_evDo hs (p1 x hx)]
    exact hl x (List.mem_cons_of_mem _ hx)
  ·exact plan_told L pos ops L' hs (fun x hx => hl x (List.mem_cons_of_mem _ hx)) p2
theorem planF_told {L : List Pr} (hs : Sorted L) (pos : Int) (conds ops : List KO) : told L (planF L pos conds ops).1 := by
 unfold planF
 split
 ·rename_i hc
  obtain ⟨_, _, _, h4⟩ := checkF_len hc
  split
  ·split
   ·trivial
   ·exact plan_told L pos ops L hs (fun _ _ => rfl) (right_dist ops [] h4).1
  ·trivial
 ·trivial
theorem doF_take (L : List Pr) (pos : Int) (conds ops : List KO) : doF L pos conds ops = takeF L (planF L pos conds ops).1 := by
 unfold doF
 split
 ·rfl
 ·rename_i h
  unfold planF at h ⊢
  split
  ·rename_i hc
   rw [if_pos hc] at h
   split
   ·rename_i ha
    rw [if_pos ha] at h
    split
    ·rfl
    ·rename_i hp
     rw [if_neg hp] at h
     exact absurd rfl h
   ·rfl
  ·rfl

end Go.Proofs.YtdioedabjaaboaaGreat.V
