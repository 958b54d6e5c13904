/- Views: the example. -/
import Derived.Test.YtdioedabjaaboaaGreatXS
set_option linter.unusedVariables false
set_option linter.unusedSimpArgs false
namespace Go.Proofs.YtdioedabjaaboaaGreat.V
open Go Go.VL

theorem vput_spec (k v : ByteArray) (S : Store) : PRet Tryz.prog 10 [.str k, .str v] S (.agg [.str k, .bool true, .str v]) := by
 intro K hK
 refine pcalls_of (C := C) (fun _ => false) (fun _ => false) Tryz.func10 rfl rfl (by simp [Tryz.f10]) ?_
 simp -implicitDefEqProofs only [go_sem, ↓reduceIte, Nat.reduceEqDiff, Nat.reduceLT, Nat.reduceLeDiff, Nat.reduceAdd, Nat.reduceMul, Nat.reduceSub, reduceCtorEq, Nat.reduceMod, Nat.reduceBEq, Int.reduceBEq, Int.reduceBNe, Int.reduceToNat, Tryz.f10]
 exact ⟨S, fun _ _ h => h, hK⟩
def wS : Wv := ⟨⟨#[115]⟩, 3, ⟨#[97]⟩, ⟨#[110]⟩⟩
theorem vsum_spec (S : Store) : PRet Tryz.prog 12 [] S (.agg (encW wS)) := by
 intro K hK
 refine pcalls_of (C := C) (fun _ => false) (fun _ => false) Tryz.func12 rfl rfl (by simp [Tryz.f12]) ?_
 simp -implicitDefEqProofs only [go_sem, ↓reduceIte, Nat.reduceEqDiff, Nat.reduceLT, Nat.reduceLeDiff, Nat.reduceAdd, Nat.reduceMul, Nat.reduceSub, reduceCtorEq, Nat.reduceMod, Nat.reduceBEq, Int.reduceBEq, Int.reduceBNe, Int.reduceToNat, Tryz.f12]
 exact ⟨S, fun _ _ h => h, hK⟩
theorem begun_calls (S : Store) (K : PV → Store → Prop) (hK : ∀ S' mid vid, Sub' S S' → S mid = none → S vid = none → Ps S' mid vid [] [] .nil → K (encPair mid vid) S') : PCalls Tryz.prog 22 [] S K := by
 refine pcalls_of (C := C) (fun _ => false) (fun _ => false) Tryz.func22 rfl rfl (by simp [Tryz.f22]) ?_
 simp -implicitDefEqProofs only [go_sem, ↓reduceIte, Nat.reduceEqDiff, Nat.reduceLT, Nat.reduceLeDiff, Nat.reduceAdd, Nat.reduceMul, Nat.reduceSub, reduceCtorEq, Nat.reduceMod, Nat.reduceBEq, Int.reduceBEq, Int.reduceBNe, Int.reduceToNat, Tryz.f22]
 refine KNew_calls _ _ ?_
 intro mid hm
 simp -implicitDefEqProofs only [go_sem, ↓reduceIte, Nat.reduceEqDiff, Nat.reduceLT, Nat.reduceLeDiff, Nat.reduceAdd, Nat.reduceMul, Nat.reduceSub, reduceCtorEq, Nat.reduceMod, Nat.reduceBEq, Int.reduceBEq, Int.reduceBNe, Int.reduceToNat]
 refine VNew_calls _ _ ?_
 intro vid hv
 have hne : vid ≠ mid := fun he => by rw [he, set_at] at hv; cases hv
 have hv0 : S vid = none := by rw [Go.VL.set_ne hne] at hv; exact hv
 simp -implicitDefEqProofs only [go_sem, ↓reduceIte, Nat.reduceEqDiff, Nat.reduceLT, Nat.reduceLeDiff, Nat.reduceAdd, Nat.reduceMul, Nat.reduceSub, reduceCtorEq, Nat.reduceMod, Nat.reduceBEq, Int.reduceBEq, Int.reduceBNe, Int.reduceToNat]
 refine ⟨_, fun _ _ h => h, hK _ mid vid ?_ hm hv0 ⟨?_, rfl, Vs.nil _ _ _, fun p hp => (by cases hp), by decide, by decide⟩⟩
 ·intro id x hx
  rw [Go.VL.set_ne (fun he => by rw [he, hv0] at hx; cases hx), Go.VL.set_ne (fun he => by rw [he, hm] at hx; cases hx), hx]
 ·refine ⟨?_, trivial, List.Pairwise.nil⟩
  rw [Go.VL.set_ne (Ne.symm hne), set_at]
def k1 : ByteArray := ⟨#[107, 49]⟩
def k2 : ByteArray := ⟨#[107, 50]⟩
def k3 : ByteArray := ⟨#[107, 51]⟩
def u1 : ByteArray := ⟨#[97, 58, 120, 32, 110, 58, 53]⟩
def u2 : ByteArray := ⟨#[97, 58, 120, 32, 110, 58, 45, 50]⟩
def u3 : ByteArray := ⟨#[110, 58, 57]⟩
def aw1 : DV := ⟨0, [⟨k1, true, u1⟩, ⟨k2, true, u2⟩, ⟨k3, true, u3⟩], ⟨⟨#[]⟩, 0, ⟨#[]⟩, ⟨#[]⟩⟩⟩
def aw2 : DV := ⟨4, [], wS⟩
def aw3 : DV := ⟨0, [⟨k1, false, ⟨#[]⟩⟩], ⟨⟨#[]⟩, 0, ⟨#[]⟩, ⟨#[]⟩⟩⟩
def M1 : List Pr := [(k1, u1), (k2, u2), (k3, u3)]
def M2 : List Pr := [(k2, u2), (k3, u3)]
theorem aw_p1 : (planF [] 1 [] aw1.ops).2 = 0 := by decide +kernel
theorem aw_d1 : doF [] 1 [] aw1.ops = M1 := by decide +kernel
theorem aw_p3 : (planF M1 1 [] aw3.ops).2 = 0 := by decide +kernel
theorem aw_d3 : doF M1 1 [] aw3.ops = M2 := by decide +kernel
theorem aw_v : vcheck wS = 0 := by decide +kernel
theorem aw_f2 : fitsQ wS M2 = true := by decide +kernel
theorem aw_a : addE wS [] M1 = 0 := by decide +kernel
theorem aw_o0 : opV 0 < 4 := by decide +kernel
theorem aw_o4 : opV 4 = 4 := by decide +kernel
def tx : ByteArray := ⟨#[120]⟩
theorem aw_g1 : ∀ g, memG wS g M1 ≠ [] ↔ g = tx := by
 intro g
 have h1 : fieldF u1 wS.field = some tx := by decide +kernel
 have h2 : fieldF u2 wS.field = some tx := by decide +kernel
 have h3 : fieldF u3 wS.field = none := by decide +kernel
 rw [memG_ne]
 constructor
 ·rintro ⟨p, hp, he⟩
  simp only [M1, List.mem_cons, List.not_mem_nil, or_false] at hp
  rcases hp with rfl | rfl | rfl
  ·dsimp only at he; rw [h1] at he; injection he with he; exact he.symm
  ·dsimp only at he; rw [h2] at he; injection he with he; exact he.symm
  ·dsimp only at he; rw [h3] at he; cases he
 ·rintro rfl
  exact ⟨(k1, u1), by simp [M1], h1⟩
theorem aw_g2 : ∀ g, memG wS g M2 ≠ [] ↔ g = tx := by
 intro g
 have h2 : fieldF u2 wS.field = some tx := by decide +kernel
 have h3 : fieldF u3 wS.field = none := by decide +kernel
 rw [memG_ne]
 constructor
 ·rintro ⟨p, hp, he⟩
  simp only [M2, List.mem_cons, List.not_mem_nil, or_false] at hp
  rcases hp with rfl | rfl
  ·dsimp only at he; rw [h2] at he; injection he with he; exact he.symm
  ·dsimp only at he; rw [h3] at he; cases he
 ·rintro rfl
  exact ⟨(k2, u2), by simp [M2], h2⟩
theorem groups_one {w : Wv} {P : List Pr} {t : ByteArray} (h : ∀ g, memG w g P ≠ [] ↔ g = t) : sortB (groups w P) = [t] := by
 have hp : (groups w P).Perm [t] := perm_of_mem nodup_dd (by simp) fun x => by rw [mem_groups, h]; simp
 rw [sortB_perm hp]
 unfold sortB
 simp
theorem aw_r1 : rowsOf wS M1 = [⟨tx, [], 3⟩] := by
 unfold rowsOf
 rw [groups_one aw_g1]
 have h1 : fitF (sumOf wS (memG wS tx M1)) = true := by decide +kernel
 have h2 : valF (sumOf wS (memG wS tx M1)) = 3 := by decide +kernel
 simp only [List.map_cons, List.map_nil, rowOf, h1, h2, show wS.kind = 3 from rfl, if_true]
 rfl
theorem aw_r2 : rowsOf wS M2 = [⟨tx, [], -2⟩] := by
 unfold rowsOf
 rw [groups_one aw_g2]
 have h1 : fitF (sumOf wS (memG wS tx M2)) = true := by decide +kernel
 have h2 : valF (sumOf wS (memG wS tx M2)) = -2 := by decide +kernel
 simp only [List.map_cons, List.map_nil, rowOf, h1, h2, show wS.kind = 3 from rfl, if_true]
 rfl
end Go.Proofs.YtdioedabjaaboaaGreat.V
namespace Go.Proofs.YtdioedabjaaboaaGreat.V
open Go Go.VL

theorem fitM1 : FitK M1 := by unfold FitK; decide +kernel
theorem fitM2 : FitK M2 := by unfold FitK; decide +kernel
theorem fitO1 : FitO aw1.ops := by unfold FitO; decide +kernel
theorem fitO3 : FitO aw3.ops := by unfold FitO; decide +kernel
set_option maxHeartbeats 8000000 in
theorem vawake_calls (S : Store) (K : PV → Store → Prop) (hK : ∀ S', Sub' S S' → K (.bool true) S') : PCalls Tryz.prog 9 [] S K := by
 refine pcalls_of (C := C) (fun _ => false) (fun _ => false) Tryz.func9 rfl rfl (by simp [Tryz.f9]) ?_
 simp -implicitDefEqProofs only [go_sem, ↓reduceIte, Nat.reduceEqDiff, Nat.reduceLT, Nat.reduceLeDiff, Nat.reduceAdd, Nat.reduceMul, Nat.reduceSub, reduceCtorEq, Nat.reduceMod, Nat.reduceBEq, Int.reduceBEq, Int.reduceBNe, Int.reduceToNat, Tryz.f9]
 refine begun_calls S _ ?_
 intro S1 mid vid hsub hmid hvid h1
 unfold encPair
 simp -implicitDefEqProofs only [go_sem, ↓reduceIte, Nat.reduceEqDiff, Nat.reduceLT, Nat.reduceLeDiff, Nat.reduceAdd, Nat.reduceMul, Nat.reduceSub, reduceCtorEq, Nat.reduceMod, Nat.reduceBEq, Int.reduceBEq, Int.reduceBNe, Int.reduceToNat]
 refine vwp_tail (i := 2) 6 (by decide +kernel) (by decide +kernel) ?_
 dsimp only [List.take, List.drop]
 simp -implicitDefEqProofs only [go_sem, ↓reduceIte, Nat.reduceEqDiff, Nat.reduceLT, Nat.reduceLeDiff, Nat.reduceAdd, Nat.reduceMul, Nat.reduceSub, reduceCtorEq, Nat.reduceMod, Nat.reduceBEq, Int.reduceBEq, Int.reduceBNe, Int.reduceToNat]
 refine q_call _ (by simp -implicitDefEqProofs only [go_sem, ↓reduceIte, Nat.reduceEqDiff]; exact vput_spec _ _ _) (by decide) rfl ?_
 refine q_call _ (by simp -implicitDefEqProofs only [go_sem, ↓reduceIte, Nat.reduceEqDiff]; exact vput_spec _ _ _) (by decide) rfl ?_
 refine q_call _ (by simp -implicitDefEqProofs only [go_sem, ↓reduceIte, Nat.reduceEqDiff]; exact vput_spec _ _ _) (by decide) rfl ?_
 simp -implicitDefEqProofs only [go_sem, ↓reduceIte, Nat.reduceEqDiff, Nat.reduceLT, Nat.reduceLeDiff, Nat.reduceAdd, Nat.reduceMul, Nat.reduceSub, reduceCtorEq, Nat.reduceMod, Nat.reduceBEq, Int.reduceBEq, Int.reduceBNe, Int.reduceToNat]
 refine PCalls.unflag (does_ops h1 aw1 aw_o0 fitO1 _ (fun h => absurd aw_p1 h) (fun _ h => by cases h) ?_)
 intro _ _ S2 N t' hfr hN hkm ht' hvs
 rw [aw_d1] at ht' hvs
 have hN0 : N = [] := by simpa using hN
 subst hN0
 have h2 : Ps S2 mid vid M1 [] t' := ⟨hkm, ht', hvs, fitM1, by decide, by decide⟩
 have hne := h1.ne
 have hs2 : Sub' S S2 := fun id x hx => hfr id x (fun he => by rw [he, hvid] at hx; cases hx) (fun he => by rw [he, hmid] at hx; cases hx) (hsub id x hx)
 simp -implicitDefEqProofs only [go_sem, ↓reduceIte, Nat.reduceEqDiff, Nat.reduceLT, Nat.reduceLeDiff, Nat.reduceAdd, Nat.reduceMul, Nat.reduceSub, reduceCtorEq, Nat.reduceMod, Nat.reduceBEq, Int.reduceBEq, Int.reduceBNe, Int.reduceToNat]
 refine vwp_tail (i := 3) 3 (by decide +kernel) (by decide +kernel) ?_
 dsimp only [List.take, List.drop]
 simp -implicitDefEqProofs only [go_sem, ↓reduceIte, Nat.reduceEqDiff, Nat.reduceLT, Nat.reduceLeDiff, Nat.reduceAdd, Nat.reduceMul, Nat.reduceSub, reduceCtorEq, Nat.reduceMod, Nat.reduceBEq, Int.reduceBEq, Int.reduceBNe, Int.reduceToNat]
 refine q_call _ (by simp -implicitDefEqProofs only [go_sem, ↓reduceIte, Nat.reduceEqDiff]; exact vsum_spec _) (by decide) rfl ?_
 unfold encW
 simp -implicitDefEqProofs only [go_sem, ↓reduceIte, Nat.reduceEqDiff, Nat.reduceLT, Nat.reduceLeDiff, Nat.reduceAdd, Nat.reduceMul, Nat.reduceSub, reduceCtorEq, Nat.reduceMod, Nat.reduceBEq, Int.reduceBEq, Int.reduceBNe, Int.reduceToNat]
 refine does_add h2 aw2 aw_o4 _ (fun _ _ h => absurd aw_a h) ?_
 intro S3 gid hfr3 _ hvs3
 have h3 : Ps S3 mid vid M1 [(wS, gid)] t' := ⟨⟨hfr3 _ _ hne hkm.1, hkm.2⟩, ht', hvs3, fitM1, by decide, (show 1 ≤ 1000000 by decide)⟩
 have hs3 : Sub' S S3 := fun id x hx => hfr3 id x (fun he => by rw [he, hvid] at hx; cases hx) (hs2 id x hx)
 have hnd1 : (M1.map Prod.fst).Nodup := sorted_nodup (ht' ▸ hkm.2.2)
 have w1 : ∀ g, whereF ⟨#[115]⟩ [(wS, g)] 0 = ((0 : Nat) : Int) := fun g => by
  show (if same wS.name ⟨#[115]⟩ = true then ((0 : Nat) : Int) else _) = _
  rw [if_pos (show same wS.name ⟨#[115]⟩ = true from same_refl _)]
 have rl1 : encRVs [⟨tx, [], 3⟩] = [[.str tx, .sl .no 1 [], .int .i64 3]] := rfl
 have rl2 : encRVs [⟨tx, [], -2⟩] = [[.str tx, .sl .no 1 [], .int .i64 (-2)]] := rfl
 simp -implicitDefEqProofs only [go_sem, ↓reduceIte, Nat.reduceEqDiff, Nat.reduceLT, Nat.reduceLeDiff, Nat.reduceAdd, Nat.reduceMul, Nat.reduceSub, reduceCtorEq, Nat.reduceMod, Nat.reduceBEq, Int.reduceBEq, Int.reduceBNe, Int.reduceToNat]
 refine VRows_at h3.vs (show 1 ≤ 1000000 by decide) (by decide) fitM1 hnd1 ⟨#[115]⟩ (w1 gid) (t := (wS, gid)) rfl _ ?_
 rw [aw_r1, rl1]
 simp -implicitDefEqProofs only [go_sem, ↓reduceIte, Nat.reduceEqDiff, Nat.reduceLT, Nat.reduceLeDiff, Nat.reduceAdd, Nat.reduceMul, Nat.reduceSub, reduceCtorEq, Nat.reduceMod, Nat.reduceBEq, Int.reduceBEq, Int.reduceBNe, Int.reduceToNat]
 refine PCalls.unflag (does_ops h3 aw3 aw_o0 fitO3 _ (fun h => absurd aw_p3 h) (fun _ h => ?_) ?_)
 ·rw [aw_d3] at h
  have : takeE [(wS, gid)] M2 = 0 := by
   unfold takeE
   rw [if_pos]
   simp [aw_f2]
  rw [this] at h; cases h
 intro _ _ S4 N4 t4 hfr4 hN4 hkm4 ht4 hvs4
 rw [aw_d3] at ht4 hvs4
 obtain ⟨gid4, rfl⟩ : ∃ g, N4 = [(wS, g)] := by
  match N4, hN4 with
  | [(a, b)], h => simp at h; exact ⟨b, by rw [h]⟩
 have h4 : Ps S4 mid vid M2 [(wS, gid4)] t4 := ⟨hkm4, ht4, hvs4, fitM2, by decide, (show 1 ≤ 1000000 by decide)⟩
 have hs4 : Sub' S S4 := fun id x hx => hfr4 id x (fun he => by rw [he, hvid] at hx; cases hx) (fun he => by rw [he, hmid] at hx; cases hx) (hs3 id x hx)
 have hnd2 : (M2.map Prod.fst).Nodup := sorted_nodup (ht4 ▸ hkm4.2.2)
 simp -implicitDefEqProofs only [go_sem, ↓reduceIte, Nat.reduceEqDiff, Nat.reduceLT, Nat.reduceLeDiff, Nat.reduceAdd, Nat.reduceMul, Nat.reduceSub, reduceCtorEq, Nat.reduceMod, Nat.reduceBEq, Int.reduceBEq, Int.reduceBNe, Int.reduceToNat]
 refine VRows_at h4.vs (show 1 ≤ 1000000 by decide) (by decide) fitM2 hnd2 ⟨#[115]⟩ (w1 gid4) (t := (wS, gid4)) rfl _ ?_
 rw [aw_r2, rl2]
 simp -implicitDefEqProofs only [go_sem, ↓reduceIte, Nat.reduceEqDiff, Nat.reduceLT, Nat.reduceLeDiff, Nat.reduceAdd, Nat.reduceMul, Nat.reduceSub, reduceCtorEq, Nat.reduceMod, Nat.reduceBEq, Int.reduceBEq, Int.reduceBNe, Int.reduceToNat]
 have g1 : (0 : Int) ≤ 0 ∧ (0 : Int) < 1 := by decide
 have g2 : ((1 : Int) == 1) = true := rfl
 have g3 : ((3 : Int) == 3) = true := rfl
 have g4 : ((-2 : Int) == -2) = true := rfl
 have i1c : ((1 : Nat) : Int) = 1 := rfl
 have g5 : ((70 : Int) == 70) = true := rfl
 have g6 : same tx ⟨#[120]⟩ = true := same_refl _
 have g7 : 0 ≤ whereF aw2.view.name [(wS, gid4)] 0 := by
  show (0 : Int) ≤ (if same wS.name wS.name = true then ((0 : Nat) : Int) else _)
  rw [if_pos (same_refl _)]; decide
 refine vwp_draw (i := 7) (by decide +kernel) ?_
 simp -implicitDefEqProofs only [go_sem, ↓reduceIte, Nat.reduceEqDiff, Nat.reduceLT, Nat.reduceLeDiff, Nat.reduceAdd, Nat.reduceMul, Nat.reduceSub, reduceCtorEq, Nat.reduceMod, Nat.reduceBEq, Int.reduceBEq, Int.reduceBNe, Int.reduceToNat, c0, g1, g2, g3, g4, g6, List.length_cons, List.length_nil, Nat.zero_add, Int.toNat_zero, List.getD_cons_zero, i1c]
 refine q_call _ (by simp -implicitDefEqProofs only [go_sem, ↓reduceIte, Nat.reduceEqDiff]; exact vsum_spec _) (by decide) rfl ?_
 unfold encW
 simp -implicitDefEqProofs only [go_sem, ↓reduceIte, Nat.reduceEqDiff, Nat.reduceLT, Nat.reduceLeDiff, Nat.reduceAdd, Nat.reduceMul, Nat.reduceSub, reduceCtorEq, Nat.reduceMod, Nat.reduceBEq, Int.reduceBEq, Int.reduceBNe, Int.reduceToNat]
 refine q_call _ (by simp -implicitDefEqProofs only [go_sem, ↓reduceIte, Nat.reduceEqDiff]; exact does_there h4 aw2 aw_o4 aw_v g7) (by decide) rfl ?_
 simp -implicitDefEqProofs only [go_sem, ↓reduceIte, Nat.reduceEqDiff, Nat.reduceLT, Nat.reduceLeDiff, Nat.reduceAdd, Nat.reduceMul, Nat.reduceSub, reduceCtorEq, Nat.reduceMod, Nat.reduceBEq, Int.reduceBEq, Int.reduceBNe, Int.reduceToNat, g5]
 exact ⟨S4, fun _ _ h => h, hK S4 hs4⟩
end Go.Proofs.YtdioedabjaaboaaGreat.V
namespace Go.Proofs.YtdioedabjaaboaaGreat.V
open Go Go.VL

theorem fits_nosum {w : Wv} (hk : w.kind ≠ 3) (P : List Pr) : fitsQ w P = true := by
 rw [fitsQ_iff]
 intro g _
 have hz : ∀ p : Pr, numberF w p.2 = 0 := fun p => by unfold numberF; rw [if_neg hk]
 have h1 : ∀ Q : List Pr, sH w Q = 0 := fun Q => by
  unfold sH
  induction Q with
  | nil => rfl
  | cons p Q ih => rw [List.map_cons, List.sum_cons, ih, hz]; decide
 have h2 : ∀ Q : List Pr, sL w Q = 0 := fun Q => by
  unfold sL
  induction Q with
  | nil => rfl
  | cons p Q ih => rw [List.map_cons, List.sum_cons, ih, hz]; decide +kernel
 unfold sumOf
 rw [h1, h2]
 decide +kernel
end Go.Proofs.YtdioedabjaaboaaGreat.V
namespace Go.Proofs.YtdioedabjaaboaaGreat.V
open Go Go.VL

/-- What operations answer; what the map is then. -/
def opsE (T : WT) (L : List Pr) (ops : List KO) : Int := if (planF L 1 [] ops).2 ≠ 0 then (planF L 1 [] ops).2 else takeE T (doF L 1 [] ops)
def opsM (T : WT) (L : List Pr) (ops : List KO) : List Pr := if opsE T L ops = 0 then doF L 1 [] ops else L
theorem does_opsU {S : Store} {mid vid : Nat} {L : List Pr} {T : WT} {t : V.T} (h : Ps S mid vid L T t) (d : DV) (hd : opV d.op < 4) (hO : FitO d.ops) (hlen : L.length + 6 ≤ 400000) (K : PV → Store → Prop)
  (hK : ∀ S' N t', (∀ id x, id ≠ vid → id ≠ mid → S id = some x → S' id = some x) → N.map Prod.fst = T.map Prod.fst → Ps S' mid vid (opsM T L d.ops) N t' → K (.int .i64 (opsE T L d.ops)) S') :
  PCalls Tryz.prog 23 [encPair mid vid, .agg (encDv d)] S K := by
 have hse : Sorted L := h.list ▸ h.km.2.2
 refine does_ops h d hd hO K ?_ ?_ ?_
 ·intro h1
  have e1 : opsE T L d.ops = (planF L 1 [] d.ops).2 := by unfold opsE; rw [if_pos h1]
  have e2 : opsM T L d.ops = L := by unfold opsM; rw [e1, if_neg h1]
  have := hK S T t (fun _ _ _ _ hx => hx) rfl (by rw [e2]; exact h)
  rw [e1] at this
  exact this
 ·intro h1 h2 S' hs
  have e1 : opsE T L d.ops = 72 := by unfold opsE; rw [if_neg (by simp [h1]), h2]
  have e2 : opsM T L d.ops = L := by unfold opsM; rw [e1]; rfl
  have := hK S' T t (fun id x _ _ hx => hs id x hx) rfl (by rw [e2]; exact ⟨⟨hs _ _ h.km.1, h.km.2⟩, h.list, h.vs.keep hs, h.fit, h.len, h.few⟩)
  rw [e1] at this
  exact this
 ·intro h1 h2 S' N t' hfr hN hkm hl hvs
  have e1 : opsE T L d.ops = 0 := by unfold opsE; rw [if_neg (by simp [h1]), h2]
  have e2 : opsM T L d.ops = doF L 1 [] d.ops := by unfold opsM; rw [if_pos e1]
  have hdl := (doF_ok hse 1 [] d.ops).2
  have hNl : N.length = T.length := by have := congrArg List.length hN; simpa using this
  have hfit : FitK (doF L 1 [] d.ops) := by
   rw [doF_take]
   exact fit_take _ _ h.fit (planF_fit h.fit hO)
  have := hK S' N t' hfr hN (by rw [e2]; exact ⟨hkm, hl, hvs, hfit, by omega, by have := h.few; omega⟩)
  rw [e1] at this
  exact this
theorem Ps.mid_at {S : Store} {mid vid : Nat} {L : List Pr} {T : WT} {t : V.T} (h : Ps S mid vid L T t) : ∀ cl st vs, S mid ≠ some [PV.mcon cl st vs] := fun cl st vs hx => by
 rw [h.km.1] at hx
 injection hx with hx
 injection hx with hx
 cases hx
theorem Ps.frame {S S' : Store} {mid vid : Nat} {L : List Pr} {T : WT} {t : V.T} (h : Ps S mid vid L T t) {x y : Nat} (h1 : mid ≠ x) (h2 : mid ≠ y) (h3 : vid ≠ x) (h4 : vid ≠ y) (hx : ∀ cl st vs, S x ≠ some [PV.mcon cl st vs]) (hy : ∀ cl st vs, S y ≠ some [PV.mcon cl st vs])
  (hfr : ∀ id c, id ≠ x → id ≠ y → S id = some c → S' id = some c) : Ps S' mid vid L T t :=
 ⟨⟨hfr _ _ h1 h2 h.km.1, h.km.2⟩, h.list, ⟨hfr _ _ h3 h4 h.vs.at_, fun u hu => by
  obtain ⟨kd, hkd⟩ := h.vs.tabs u hu
  exact ⟨kd, hkd.keepM fun id cl st vs hq => hfr _ _ (fun he => hx cl st vs (he ▸ hq)) (fun he => hy cl st vs (he ▸ hq)) hq⟩⟩, h.fit, h.len, h.few⟩
/-! ### views that are no sums -/
def NoS (T : WT) : Prop := ∀ t ∈ T, t.1.kind ≠ 3
def Unl (n : ByteArray) (T : WT) : Prop := ∀ t ∈ T, same t.1.name n = false
theorem NoS.fst {O O' : WT} (h : NoS O) (he : O'.map Prod.fst = O.map Prod.fst) : NoS O' := fun t ht => by
 have : t.1 ∈ O.map Prod.fst := by rw [← he]; exact List.mem_map.2 ⟨t, ht, rfl⟩
 obtain ⟨u, hu, hx⟩ := List.mem_map.1 this
 rw [← hx]; exact h u hu
theorem Unl.fst {n : ByteArray} {O O' : WT} (h : Unl n O) (he : O'.map Prod.fst = O.map Prod.fst) : Unl n O' := fun t ht => by
 have : t.1 ∈ O.map Prod.fst := by rw [← he]; exact List.mem_map.2 ⟨t, ht, rfl⟩
 obtain ⟨u, hu, hx⟩ := List.mem_map.1 this
 rw [← hx]; exact h u hu
/-- Two maps, and views over them: the first one's are some others that are no sums, and then those of the second one. -/
structure Two (S : Store) (a1 a2 b1 b2 : Nat) (w : Wv) (L : List Pr) (O U Z : WT) (t u : V.T) : Prop where
 a : Ps S a1 a2 L (O ++ U) t
 b : Ps S b1 b2 L Z u
 n1 : b1 ≠ a1
 n2 : b1 ≠ a2
 n3 : b2 ≠ a1
 n4 : b2 ≠ a2
 nos : NoS O
 unl : Unl w.name O
 few : O.length ≤ 3
 fst : U.map Prod.fst = Z.map Prod.fst
end Go.Proofs.YtdioedabjaaboaaGreat.V
