/- Views: a table takes a key more, or less. -/
import Derived.Test.YtdioedabjaaboaaGreatXD
set_option linter.unusedVariables false
set_option linter.unusedSimpArgs false
namespace Go.Proofs.YtdioedabjaaboaaGreat.V
open Go Go.VL

theorem _root_.Go.VL.x_pb_me {id : Nat} {v : PV} : pbin .eql (.mref id) v = none := by cases v <;> rfl
theorem _root_.Go.VL.x_pb_ze {v : PV} : pbin .eql .nilm v = none := by cases v <;> rfl
theorem _root_.Go.VL.x_bin_oe {C : Ctx} {t : TypeId} {a b : PV} {q r : Nat} {z : List PV} : pBin C t .eql a b (some ⟨.other, q, r, z⟩) none = none := by cases a <;> cases b <;> rfl
attribute [go_sem] x_pb_me x_pb_ze x_bin_oe
structure Wv where
 name : ByteArray
 kind : Int
 field : ByteArray
 of_ : ByteArray
def encT (w : Wv) (gid : Nat) : List PV := [.str w.name, .int .i64 w.kind, .str w.field, .str w.of_, .mref gid]
def encW (w : Wv) : List PV := [.str w.name, .int .i64 w.kind, .str w.field, .str w.of_]
def numberF (w : Wv) (v : ByteArray) : Int := if w.kind = 3 then (numF ((fieldF v w.of_).getD ⟨#[]⟩)).1 else 0
theorem number_spec (w : Wv) (gid : Nat) (v : ByteArray) (hv : v.size ≤ 1000000) (S : Store) : PRet Tryz.prog 97 [.ip (encT w gid) 0, .str v] S (.int .i64 (numberF w v)) := by
 intro K hK
 refine pcalls_of (C := C) (fun _ => false) (fun _ => false) Tryz.func97 rfl rfl (by simp [Tryz.f97]) ?_
 unfold encT
 unfold numberF at hK
 by_cases h3 : w.kind = 3
 ·have d3 : (w.kind != 3) = false := by simp [h3]
  rw [if_pos h3] at hK
  simp -implicitDefEqProofs only [go_sem, ↓reduceIte, Nat.reduceEqDiff, Nat.reduceLT, Nat.reduceLeDiff, Nat.reduceAdd, Nat.reduceMul, Nat.reduceSub, reduceCtorEq, Nat.reduceMod, Nat.reduceBEq, Int.reduceBEq, Int.reduceBNe, Int.reduceToNat, Tryz.f97, d3]
  refine Field_spec v w.of_ hv _ _ ?_
  have hfit := @fieldF_fit v w.of_
  cases hf : fieldF v w.of_ with
  | some x =>
   rw [hf] at hK hfit
   unfold encFd
   simp -implicitDefEqProofs only [go_sem, ↓reduceIte, Nat.reduceEqDiff, Nat.reduceLT, Nat.reduceLeDiff, Nat.reduceAdd, Nat.reduceMul, Nat.reduceSub, reduceCtorEq, Nat.reduceMod, Nat.reduceBEq, Int.reduceBEq, Int.reduceBNe, Int.reduceToNat]
   refine Number_spec x (Nat.le_trans (hfit rfl) hv) _ _ ?_
   simp -implicitDefEqProofs only [go_sem, ↓reduceIte, Nat.reduceEqDiff, Nat.reduceLT, Nat.reduceLeDiff, Nat.reduceAdd, Nat.reduceMul, Nat.reduceSub, reduceCtorEq, Nat.reduceMod, Nat.reduceBEq, Int.reduceBEq, Int.reduceBNe, Int.reduceToNat]
   exact ⟨S, fun _ _ h => h, hK⟩
  | none =>
   rw [hf] at hK
   unfold encFd
   simp -implicitDefEqProofs only [go_sem, ↓reduceIte, Nat.reduceEqDiff, Nat.reduceLT, Nat.reduceLeDiff, Nat.reduceAdd, Nat.reduceMul, Nat.reduceSub, reduceCtorEq, Nat.reduceMod, Nat.reduceBEq, Int.reduceBEq, Int.reduceBNe, Int.reduceToNat]
   refine Number_spec ⟨#[]⟩ (by decide) _ _ ?_
   simp -implicitDefEqProofs only [go_sem, ↓reduceIte, Nat.reduceEqDiff, Nat.reduceLT, Nat.reduceLeDiff, Nat.reduceAdd, Nat.reduceMul, Nat.reduceSub, reduceCtorEq, Nat.reduceMod, Nat.reduceBEq, Int.reduceBEq, Int.reduceBNe, Int.reduceToNat]
   exact ⟨S, fun _ _ h => h, hK⟩
 ·have d3 : (w.kind != 3) = true := by simp [h3]
  rw [if_neg h3] at hK
  simp -implicitDefEqProofs only [go_sem, ↓reduceIte, Nat.reduceEqDiff, Nat.reduceLT, Nat.reduceLeDiff, Nat.reduceAdd, Nat.reduceMul, Nat.reduceSub, reduceCtorEq, Nat.reduceMod, Nat.reduceBEq, Int.reduceBEq, Int.reduceBNe, Int.reduceToNat, Tryz.f97, d3]
  exact ⟨S, fun _ _ h => h, hK⟩
theorem with_none (w : Wv) (gid : Nat) (k v : ByteArray) (more : Bool) (hv : v.size ≤ 1000000) (hf : fieldF v w.field = none) (S : Store) : PRet Tryz.prog 65 [.ip (encT w gid) 0, .str k, .str v, .bool more] S (.tup []) := by
 intro K hK
 refine pcalls_of (C := C) (fun _ => false) (fun _ => false) Tryz.func65 rfl rfl (by simp [Tryz.f65]) ?_
 unfold encT
 simp -implicitDefEqProofs only [go_sem, ↓reduceIte, Nat.reduceEqDiff, Nat.reduceLT, Nat.reduceLeDiff, Nat.reduceAdd, Nat.reduceMul, Nat.reduceSub, reduceCtorEq, Nat.reduceMod, Nat.reduceBEq, Int.reduceBEq, Int.reduceBNe, Int.reduceToNat, Tryz.f65]
 refine Field_spec v w.field hv _ _ ?_
 rw [hf]
 unfold encFd
 simp -implicitDefEqProofs only [go_sem, ↓reduceIte, Nat.reduceEqDiff, Nat.reduceLT, Nat.reduceLeDiff, Nat.reduceAdd, Nat.reduceMul, Nat.reduceSub, reduceCtorEq, Nat.reduceMod, Nat.reduceBEq, Int.reduceBEq, Int.reduceBNe, Int.reduceToNat]
 exact ⟨S, fun _ _ h => h, hK⟩
def gv (kid : Nat) (s : Int × Int) : PV := .agg [.mref kid, .int .i64 s.1, .int .i64 s.2]
theorem MC.len {S : Store} {id cl : Nat} {st : List (Nat × ByteArray)} {L : AL} (h : MC S id cl st L) : st.length = L.length := by
 have := congrArg List.length h.keys
 simpa using this
theorem upd_ne (k : ByteArray) (v : PV) (L : AL) : updA k v L ≠ [] := by
 rcases splitA k L with ⟨pre, v', post, h1, h3, _, _, h2, _⟩ | ⟨h1, _, _, h2, _⟩ <;> (rw [h2]; simp)
theorem with_add1 (w : Wv) (gid : Nat) (k v g : ByteArray) (hv : v.size ≤ 1000000) (hf : fieldF v w.field = some g) (S : Store) {cl : Nat} {st : List (Nat × ByteArray)} {L : AL} (hM : MC S gid cl st L)
  {kid : Nat} {s : Int × Int} (hl : lkA g L = some (gv kid s)) {cl' : Nat} {st' : List (Nat × ByteArray)} {L' : AL} (hM' : MC S kid cl' st' L') (hne : kid ≠ gid) (K : PV → Store → Prop)
  (hK : ∀ S' a b c d, (∀ id x, id ≠ gid → id ≠ kid → S id = some x → S' id = some x) → MC S' gid a b (updA g (gv kid (addF s (numberF w v) 1)) L) → MC S' kid c d (updA k (.bool true) L') → K (.tup []) S') :
  PCalls Tryz.prog 65 [.ip (encT w gid) 0, .str k, .str v, .bool true] S K := by
 refine pcalls_of (C := C) (fun _ => false) (fun d => d == 10) Tryz.func65 rfl rfl (by simp [Tryz.f65]) ?_
 unfold encT
 simp -implicitDefEqProofs only [go_sem, ↓reduceIte, Nat.reduceEqDiff, Nat.reduceLT, Nat.reduceLeDiff, Nat.reduceAdd, Nat.reduceMul, Nat.reduceSub, reduceCtorEq, Nat.reduceMod, Nat.reduceBEq, Int.reduceBEq, Int.reduceBNe, Int.reduceToNat, Tryz.f65]
 refine Field_spec v w.field hv _ _ ?_
 rw [hf]
 unfold encFd
 unfold gv at hl
 simp -implicitDefEqProofs only [go_sem, ↓reduceIte, Nat.reduceEqDiff, Nat.reduceLT, Nat.reduceLeDiff, Nat.reduceAdd, Nat.reduceMul, Nat.reduceSub, reduceCtorEq, Nat.reduceMod, Nat.reduceBEq, Int.reduceBEq, Int.reduceBNe, Int.reduceToNat, hM.at_, hM.look, hl]
 intro xid hx
 have hgx : gid ≠ xid := fun h => by have := hM.some; rw [h, hx] at this; cases this
 have hkx : kid ≠ xid := fun h => by have := hM'.some; rw [h, hx] at this; cases this
 obtain ⟨cu, su, hu, hu'⟩ := hM'.upd k (.bool true)
 simp -implicitDefEqProofs only [go_sem, ↓reduceIte, Nat.reduceEqDiff, Nat.reduceLT, Nat.reduceLeDiff, Nat.reduceAdd, Nat.reduceMul, Nat.reduceSub, reduceCtorEq, Nat.reduceMod, Nat.reduceBEq, Int.reduceBEq, Int.reduceBNe, Int.reduceToNat, Option.getD_some, mapAt_ne hgx, mapAt_ne hkx, hM'.at_, hu]
 obtain ⟨A, hA⟩ : ∃ A, A = updA k (.bool true) L' := ⟨_, rfl⟩
 rw [← hA] at hu' ⊢
 have a1 : ((S.set xid (some [PV.mref kid, PV.int IntKind.i64 s.fst, PV.int IntKind.i64 s.snd])).set kid (some [PV.mcon cu su (List.map Prod.snd A)])) xid = some [PV.mref kid, PV.int IntKind.i64 s.fst, PV.int IntKind.i64 s.snd] := by
  rw [Go.VL.set_ne (Ne.symm hkx), set_at]
 refine vwp_tail 7 (by decide +kernel) (by decide +kernel) ?_
 dsimp only [List.take, List.drop]
 simp -implicitDefEqProofs only [go_sem, ↓reduceIte, Nat.reduceEqDiff, Nat.reduceLT, Nat.reduceLeDiff, Nat.reduceAdd, Nat.reduceMul, Nat.reduceSub, reduceCtorEq, Nat.reduceMod, Nat.reduceBEq, Int.reduceBEq, Int.reduceBNe, Int.reduceToNat, a1]
 refine q_call _ (by simp -implicitDefEqProofs only [go_sem, ↓reduceIte, Nat.reduceEqDiff]; exact number_spec w gid v hv _) (by decide) rfl ?_
 refine q_call _ (by simp -implicitDefEqProofs only [go_sem, ↓reduceIte, Nat.reduceEqDiff]; exact add_spec s (numberF w v) 1 _) (by decide) rfl ?_
 obtain ⟨cg, sg, hg, hg'⟩ := hM.upd g (gv kid (addF s (numberF w v) 1))
 unfold gv at hg
 have m1 : MC (S.set kid (some [PV.mcon cu su (List.map Prod.snd A)])) kid cu su A := hu' _ mapAt_set
 have hz : ((su.length : Int) == 0) = false := by
  have h1 := m1.len
  have h2 : A ≠ [] := by rw [hA]; exact upd_ne _ _ _
  have h3 : A.length ≠ 0 := fun h => h2 (List.length_eq_zero_iff.1 h)
  exact beq_eq_false_iff_ne.2 (by omega)
 have hgk : gid ≠ kid := Ne.symm hne
 simp -implicitDefEqProofs only [go_sem, ↓reduceIte, Nat.reduceEqDiff, Nat.reduceLT, Nat.reduceLeDiff, Nat.reduceAdd, Nat.reduceMul, Nat.reduceSub, reduceCtorEq, Nat.reduceMod, Nat.reduceBEq, Int.reduceBEq, Int.reduceBNe, Int.reduceToNat, a1, psplice, mapAt_ne hkx, hz]
 refine vwp_tail 6 (by decide +kernel) (by decide +kernel) ?_
 dsimp only [List.take, List.drop]
 simp -implicitDefEqProofs only [go_sem, ↓reduceIte, Nat.reduceEqDiff, Nat.reduceLT, Nat.reduceLeDiff, Nat.reduceAdd, Nat.reduceMul, Nat.reduceSub, reduceCtorEq, Nat.reduceMod, Nat.reduceBEq, Int.reduceBEq, Int.reduceBNe, Int.reduceToNat, set_at, mapAt_ne hgx, mapAt_ne hgk, hM.at_, hg]
 refine ⟨_, fun _ _ h => h, hK _ cg sg cu su ?_ ?_ ?_⟩
 ·intro id x h1 h2 h3
  have hidx : id ≠ xid := fun h => by rw [h, hx] at h3; cases h3
  rw [Go.VL.set_ne h1, Go.VL.set_ne hidx, Go.VL.set_ne h2, Go.VL.set_ne hidx, h3]
 ·exact hg' _ mapAt_set
 ·rw [← hA]
  refine hu' _ ?_
  rw [mapAt_ne hne, mapAt_ne hkx, mapAt_set]
theorem with_add0 (w : Wv) (gid : Nat) (k v g : ByteArray) (hv : v.size ≤ 1000000) (hf : fieldF v w.field = some g) (S : Store) {cl : Nat} {st : List (Nat × ByteArray)} {L : AL} (hM : MC S gid cl st L)
  (hl : lkA g L = none) (K : PV → Store → Prop)
  (hK : ∀ S' kid a b c d, S kid = none → kid ≠ gid → (∀ id x, id ≠ gid → S id = some x → S' id = some x) → MC S' gid a b (updA g (gv kid (addF (0, 0) (numberF w v) 1)) L) → MC S' kid c d [(k, .bool true)] → K (.tup []) S') :
  PCalls Tryz.prog 65 [.ip (encT w gid) 0, .str k, .str v, .bool true] S K := by
 refine pcalls_of (C := C) (fun _ => false) (fun d => d == 10 || d == 32) Tryz.func65 rfl rfl (by simp [Tryz.f65]) ?_
 unfold encT
 simp -implicitDefEqProofs only [go_sem, ↓reduceIte, Nat.reduceEqDiff, Nat.reduceLT, Nat.reduceLeDiff, Nat.reduceAdd, Nat.reduceMul, Nat.reduceSub, reduceCtorEq, Nat.reduceMod, Nat.reduceBEq, Int.reduceBEq, Int.reduceBNe, Int.reduceToNat, Tryz.f65]
 refine Field_spec v w.field hv _ _ ?_
 rw [hf]
 unfold encFd
 simp -implicitDefEqProofs only [go_sem, ↓reduceIte, Nat.reduceEqDiff, Nat.reduceLT, Nat.reduceLeDiff, Nat.reduceAdd, Nat.reduceMul, Nat.reduceSub, reduceCtorEq, Nat.reduceMod, Nat.reduceBEq, Int.reduceBEq, Int.reduceBNe, Int.reduceToNat, hM.at_, hM.look, hl]
 intro xid hx
 simp -implicitDefEqProofs only [go_sem, ↓reduceIte, Nat.reduceEqDiff, Nat.reduceLT, Nat.reduceLeDiff, Nat.reduceAdd, Nat.reduceMul, Nat.reduceSub, reduceCtorEq, Nat.reduceMod, Nat.reduceBEq, Int.reduceBEq, Int.reduceBNe, Int.reduceToNat, Option.getD_none]
 intro kid hk
 have hxk : kid ≠ xid := fun h => by rw [h, set_at] at hk; cases hk
 rw [Go.VL.set_ne hxk] at hk
 have hgx : gid ≠ xid := fun h => by have := hM.some; rw [h, hx] at this; cases this
 have hgk : gid ≠ kid := fun h => by have := hM.some; rw [h, hk] at this; cases this
 have h0 : MC ((S.set kid (some [PV.mcon 0 [] []]))) kid 0 [] [] := ⟨mapAt_set, rfl, by simp, by simp⟩
 obtain ⟨cu, su, hu, hu'⟩ := h0.upd k (.bool true)
 have hup : updA k (.bool true) [] = [(k, .bool true)] := rfl
 rw [hup] at hu hu'
 simp only [List.map_nil, List.map_cons] at hu hu'
 have hkx : kid ≠ xid := hxk
 have a0 : ∀ (T : Store) (c : Option (List PV)), (((T.set xid c).set kid (some [PV.mcon 0 [] []]))) xid = c := by
  intro T c
  rw [Go.VL.set_ne (Ne.symm hxk), set_at]
 simp -implicitDefEqProofs only [go_sem, ↓reduceIte, Nat.reduceEqDiff, Nat.reduceLT, Nat.reduceLeDiff, Nat.reduceAdd, Nat.reduceMul, Nat.reduceSub, reduceCtorEq, Nat.reduceMod, Nat.reduceBEq, Int.reduceBEq, Int.reduceBNe, Int.reduceToNat, a0, psplice, mapAt_ne hkx, hu]
 have a1 : ∀ (T : Store) (c : Option (List PV)) (c' : Option (List PV)), (((T.set xid c).set kid c')) xid = c := by
  intro T c c'
  rw [Go.VL.set_ne (Ne.symm hxk), set_at]
 refine vwp_tail 7 (by decide +kernel) (by decide +kernel) ?_
 dsimp only [List.take, List.drop]
 simp -implicitDefEqProofs only [go_sem, ↓reduceIte, Nat.reduceEqDiff, Nat.reduceLT, Nat.reduceLeDiff, Nat.reduceAdd, Nat.reduceMul, Nat.reduceSub, reduceCtorEq, Nat.reduceMod, Nat.reduceBEq, Int.reduceBEq, Int.reduceBNe, Int.reduceToNat, a1]
 refine q_call _ (by simp -implicitDefEqProofs only [go_sem, ↓reduceIte, Nat.reduceEqDiff]; exact number_spec w gid v hv _) (by decide) rfl ?_
 refine q_call _ (by simp -implicitDefEqProofs only [go_sem, ↓reduceIte, Nat.reduceEqDiff]; exact add_spec (0, 0) (numberF w v) 1 _) (by decide) rfl ?_
 obtain ⟨cg, sg, hg, hg'⟩ := hM.upd g (gv kid (addF (0, 0) (numberF w v) 1))
 unfold gv at hg
 have m1 : MC (S.set kid (some [PV.mcon cu su [PV.bool true]])) kid cu su [(k, .bool true)] := hu' _ mapAt_set
 have hz : ((su.length : Int) == 0) = false := by
  have h1 := m1.len
  simp only [List.length_cons, List.length_nil] at h1
  exact beq_eq_false_iff_ne.2 (by omega)
 have hkg : kid ≠ gid := Ne.symm hgk
 simp -implicitDefEqProofs only [go_sem, ↓reduceIte, Nat.reduceEqDiff, Nat.reduceLT, Nat.reduceLeDiff, Nat.reduceAdd, Nat.reduceMul, Nat.reduceSub, reduceCtorEq, Nat.reduceMod, Nat.reduceBEq, Int.reduceBEq, Int.reduceBNe, Int.reduceToNat, a1, psplice, mapAt_ne hkx, hz]
 refine vwp_tail 6 (by decide +kernel) (by decide +kernel) ?_
 dsimp only [List.take, List.drop]
 simp -implicitDefEqProofs only [go_sem, ↓reduceIte, Nat.reduceEqDiff, Nat.reduceLT, Nat.reduceLeDiff, Nat.reduceAdd, Nat.reduceMul, Nat.reduceSub, reduceCtorEq, Nat.reduceMod, Nat.reduceBEq, Int.reduceBEq, Int.reduceBNe, Int.reduceToNat, set_at, mapAt_ne hgx, mapAt_ne hgk, hM.at_, hg]
 refine ⟨_, fun _ _ h => h, hK _ kid cg sg cu su hk hkg ?_ ?_ ?_⟩
 ·intro id x h1 h3
  have hidx : id ≠ xid := fun h => by rw [h, hx] at h3; cases h3
  have hidk : id ≠ kid := fun h => by rw [h, hk] at h3; cases h3
  rw [Go.VL.set_ne h1, Go.VL.set_ne hidx, Go.VL.set_ne hidk, Go.VL.set_ne hidx, Go.VL.set_ne hidk, Go.VL.set_ne hidx, h3]
 ·exact hg' _ mapAt_set
 ·refine hu' _ ?_
  rw [mapAt_ne hkg, mapAt_ne hkx, mapAt_set]
theorem with_del (w : Wv) (gid : Nat) (k v g : ByteArray) (hv : v.size ≤ 1000000) (hf : fieldF v w.field = some g) (S : Store) {cl : Nat} {st : List (Nat × ByteArray)} {L : AL} (hM : MC S gid cl st L)
  {kid : Nat} {s : Int × Int} (hl : lkA g L = some (gv kid s)) {cl' : Nat} {st' : List (Nat × ByteArray)} {L' : AL} (hM' : MC S kid cl' st' L') (hne : kid ≠ gid) (K : PV → Store → Prop)
  (hK : ∀ S' a b c d, (∀ id x, id ≠ gid → id ≠ kid → S id = some x → S' id = some x) → MC S' gid a b (if (delA k L').length = 0 then delA g L else updA g (gv kid (addF s (numberF w v) (-1))) L) → MC S' kid c d (delA k L') → K (.tup []) S') :
  PCalls Tryz.prog 65 [.ip (encT w gid) 0, .str k, .str v, .bool false] S K := by
 refine pcalls_of (C := C) (fun _ => false) (fun d => d == 10) Tryz.func65 rfl rfl (by simp [Tryz.f65]) ?_
 unfold encT
 simp -implicitDefEqProofs only [go_sem, ↓reduceIte, Nat.reduceEqDiff, Nat.reduceLT, Nat.reduceLeDiff, Nat.reduceAdd, Nat.reduceMul, Nat.reduceSub, reduceCtorEq, Nat.reduceMod, Nat.reduceBEq, Int.reduceBEq, Int.reduceBNe, Int.reduceToNat, Tryz.f65]
 refine Field_spec v w.field hv _ _ ?_
 rw [hf]
 unfold encFd
 unfold gv at hl
 simp -implicitDefEqProofs only [go_sem, ↓reduceIte, Nat.reduceEqDiff, Nat.reduceLT, Nat.reduceLeDiff, Nat.reduceAdd, Nat.reduceMul, Nat.reduceSub, reduceCtorEq, Nat.reduceMod, Nat.reduceBEq, Int.reduceBEq, Int.reduceBNe, Int.reduceToNat, hM.at_, hM.look, hl]
 intro xid hx
 have hgx : gid ≠ xid := fun h => by have := hM.some; rw [h, hx] at this; cases this
 have hkx : kid ≠ xid := fun h => by have := hM'.some; rw [h, hx] at this; cases this
 obtain ⟨su, hu, hu'⟩ := hM'.del k
 simp -implicitDefEqProofs only [go_sem, ↓reduceIte, Nat.reduceEqDiff, Nat.reduceLT, Nat.reduceLeDiff, Nat.reduceAdd, Nat.reduceMul, Nat.reduceSub, reduceCtorEq, Nat.reduceMod, Nat.reduceBEq, Int.reduceBEq, Int.reduceBNe, Int.reduceToNat, Option.getD_some, mapAt_ne hgx, mapAt_ne hkx, hM'.at_, hu]
 obtain ⟨A, hA⟩ : ∃ A, A = delA k L' := ⟨_, rfl⟩
 rw [← hA] at hu' hK ⊢
 have a1 : ((S.set xid (some [PV.mref kid, PV.int IntKind.i64 s.fst, PV.int IntKind.i64 s.snd])).set kid (some [PV.mcon cl' su (List.map Prod.snd A)])) xid = some [PV.mref kid, PV.int IntKind.i64 s.fst, PV.int IntKind.i64 s.snd] := by
  rw [Go.VL.set_ne (Ne.symm hkx), set_at]
 refine vwp_tail 7 (by decide +kernel) (by decide +kernel) ?_
 dsimp only [List.take, List.drop]
 simp -implicitDefEqProofs only [go_sem, ↓reduceIte, Nat.reduceEqDiff, Nat.reduceLT, Nat.reduceLeDiff, Nat.reduceAdd, Nat.reduceMul, Nat.reduceSub, reduceCtorEq, Nat.reduceMod, Nat.reduceBEq, Int.reduceBEq, Int.reduceBNe, Int.reduceToNat, a1]
 refine q_call _ (by simp -implicitDefEqProofs only [go_sem, ↓reduceIte, Nat.reduceEqDiff]; exact number_spec w gid v hv _) (by decide) rfl ?_
 refine q_call _ (by simp -implicitDefEqProofs only [go_sem, ↓reduceIte, Nat.reduceEqDiff]; exact add_spec s (numberF w v) (-1) _) (by decide) rfl ?_
 have m1 : MC (S.set kid (some [PV.mcon cl' su (List.map Prod.snd A)])) kid cl' su A := hu' _ mapAt_set
 have hlen := m1.len
 have hgk : gid ≠ kid := Ne.symm hne
 by_cases h0 : A.length = 0
 ·have hz : ((su.length : Int) == 0) = true := beq_iff_eq.2 (by omega)
  obtain ⟨sg, hg, hg'⟩ := hM.del g
  rw [if_pos h0] at hK
  simp -implicitDefEqProofs only [go_sem, ↓reduceIte, Nat.reduceEqDiff, Nat.reduceLT, Nat.reduceLeDiff, Nat.reduceAdd, Nat.reduceMul, Nat.reduceSub, reduceCtorEq, Nat.reduceMod, Nat.reduceBEq, Int.reduceBEq, Int.reduceBNe, Int.reduceToNat, a1, psplice, mapAt_ne hkx, hz, mapAt_ne hgx, mapAt_ne hgk, hM.at_, hg]
  refine ⟨_, fun _ _ h => h, hK _ cl sg cl' su ?_ ?_ ?_⟩
  ·intro id x h1 h2 h3
   have hidx : id ≠ xid := fun h => by rw [h, hx] at h3; cases h3
   rw [Go.VL.set_ne h1, Go.VL.set_ne hidx, Go.VL.set_ne h2, Go.VL.set_ne hidx, h3]
  ·exact hg' _ mapAt_set
  ·refine hu' _ ?_
   rw [mapAt_ne hne, mapAt_ne hkx, mapAt_set]
 ·have hz : ((su.length : Int) == 0) = false := beq_eq_false_iff_ne.2 (by omega)
  obtain ⟨cg, sg, hg, hg'⟩ := hM.upd g (gv kid (addF s (numberF w v) (-1)))
  unfold gv at hg
  rw [if_neg h0] at hK
  simp -implicitDefEqProofs only [go_sem, ↓reduceIte, Nat.reduceEqDiff, Nat.reduceLT, Nat.reduceLeDiff, Nat.reduceAdd, Nat.reduceMul, Nat.reduceSub, reduceCtorEq, Nat.reduceMod, Nat.reduceBEq, Int.reduceBEq, Int.reduceBNe, Int.reduceToNat, a1, psplice, mapAt_ne hkx, hz]
  refine vwp_tail 6 (by decide +kernel) (by decide +kernel) ?_
  dsimp only [List.take, List.drop]
  simp -implicitDefEqProofs only [go_sem, ↓reduceIte, Nat.reduceEqDiff, Nat.reduceLT, Nat.reduceLeDiff, Nat.reduceAdd, Nat.reduceMul, Nat.reduceSub, reduceCtorEq, Nat.reduceMod, Nat.reduceBEq, Int.reduceBEq, Int.reduceBNe, Int.reduceToNat, set_at, mapAt_ne hgx, mapAt_ne hgk, hM.at_, hg]
  refine ⟨_, fun _ _ h => h, hK _ cg sg cl' su ?_ ?_ ?_⟩
  ·intro id x h1 h2 h3
   have hidx : id ≠ xid := fun h => by rw [h, hx] at h3; cases h3
   rw [Go.VL.set_ne h1, Go.VL.set_ne hidx, Go.VL.set_ne h2, Go.VL.set_ne hidx, h3]
  ·exact hg' _ mapAt_set
  ·refine hu' _ ?_
   rw [mapAt_ne hne, mapAt_ne hkx, mapAt_set]
end Go.Proofs.YtdioedabjaaboaaGreat.V
