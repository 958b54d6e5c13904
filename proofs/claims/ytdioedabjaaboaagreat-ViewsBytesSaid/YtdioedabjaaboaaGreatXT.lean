/- Views: the example. -/
import Derived.Test.YtdioedabjaaboaaGreatXS
set_option linter.unusedVariables false
set_option linter.unusedSimpArgs false
namespace Go.Proofs.YtdioedabjaaboaaGreat.V
open Go Go.VL

theorem vput_spec (k v : ByteArray) (S : Store) : PRet Tryz.prog 10 [.str k, .str v] S (.agg [.str k, .bool true, .str v]) := by
 intro K hK
 refine pcalls_of (C := C) (fun _ => false) (fun _ => false) Tryz.func10 rfl rfl (by simp [Tryz.f10]) ?_
 simp -implicitDefEqProofs only [go_sem, ↓reduceIte, Nat.reduceEqDiff, Nat.reduceLT, Nat.reduceLeDiff, Nat.reduceAdd, Nat.reduceMul, Nat.reduceSub, reduceCtorEq, Nat.reduceMod, Nat.reduceBEq, Int.reduceBEq, Int.reduceBNe, Int.reduceToNat, Tryz.f10]
 exact ⟨S, fun _ _ h => h, hK⟩
def wS : Wv := ⟨⟨#[115]⟩, 3, ⟨#[97]⟩, ⟨#[110]⟩⟩
theorem vsum_spec (S : Store) : PRet Tryz.prog 12 [] S (.agg (encW wS)) := by
 intro K hK
 refine pcalls_of (C := C) (fun _ => false) (fun _ => false) Tryz.func12 rfl rfl (by simp [Tryz.f12]) ?_
 simp -implicitDefEqProofs only [go_sem, ↓reduceIte, Nat.reduceEqDiff, Nat.reduceLT, Nat.reduceLeDiff, Nat.reduceAdd, Nat.reduceMul, Nat.reduceSub, reduceCtorEq, Nat.reduceMod, Nat.reduceBEq, Int.reduceBEq, Int.reduceBNe, Int.reduceToNat, Tryz.f12]
 exact ⟨S, fun _ _ h => h, hK⟩
theorem begun_calls (S : Store) (K : PV → Store → Prop) (hK : ∀ S' mid vid, Sub' S S' → S mid = none → S vid = none → Ps S' mid vid [] [] .nil → K (encPair mid vid) S') : PCalls Tryz.prog 22 [] S K := by
 refine pcalls_of (C := C) (fun _ => false) (fun _ => false) Tryz.func22 rfl rfl (by simp [Tryz.f22]) ?_
 simp -implicitDefEqProofs only [go_sem, ↓reduceIte, Nat.reduceEqDiff, Nat.reduceLT, Nat.reduceLeDiff, Nat.reduceAdd, Nat.reduceMul, Nat.reduceSub, reduceCtorEq, Nat.reduceMod, Nat.reduceBEq, Int.reduceBEq, Int.reduceBNe, Int.reduceToNat, Tryz.f22]
 refine KNew_calls _ _ ?_
 intro mid hm
 simp -implicitDefEqProofs only [go_sem, ↓reduceIte, Nat.reduceEqDiff, Nat.reduceLT, Nat.reduceLeDiff, Nat.reduceAdd, Nat.reduceMul, Nat.reduceSub, reduceCtorEq, Nat.reduceMod, Nat.reduceBEq, Int.reduceBEq, Int.reduceBNe, Int.reduceToNat]
 refine VNew_calls _ _ ?_
 intro vid hv
 have hne : vid ≠ mid := fun he => by rw [he, set_at] at hv; cases hv
 have hv0 : S vid = none := by rw [Go.VL.set_ne hne] at hv; exact hv
 simp -implicitDefEqProofs only [go_sem, ↓reduceIte, Nat.reduceEqDiff, Nat.reduceLT, Nat.reduceLeDiff, Nat.reduceAdd, Nat.reduceMul, Nat.reduceSub, reduceCtorEq, Nat.reduceMod, Nat.reduceBEq, Int.reduceBEq, Int.reduceBNe, Int.reduceToNat]
 refine ⟨_, fun _ _ h => h, hK _ mid vid ?_ hm hv0 ⟨?_, rfl, Vs.nil _ _ _, fun p hp => (by cases hp), by decide, by decide⟩⟩
 ·intro id x hx
  rw [Go.VL.set_ne (fun he => by rw [he, hv0] at hx; cases hx), Go.VL.set_ne (fun he => by rw [he, hm] at hx; cases hx), hx]
 ·refine ⟨?_, trivial, List.Pairwise.nil⟩
  rw [Go.VL.set_ne (Ne.symm hne), set_at]
def k1 : ByteArray := ⟨#[107, 49]⟩
def k2 : ByteArray := ⟨#[107, 50]⟩
def k3 : ByteArray := ⟨#[107, 51]⟩
def u1 : ByteArray := ⟨#[97, 58, 120, 32, 110, 58, 53]⟩
def u2 : ByteArray := ⟨#[97, 58, 120, 32, 110, 58, 45, 50]⟩
def u3 : ByteArray := ⟨#[110, 58, 57]⟩
def aw1 : DV := ⟨0, [⟨k1, true, u1⟩, ⟨k2, true, u2⟩, ⟨k3, true, u3⟩], ⟨⟨#[]⟩, 0, ⟨#[]⟩, ⟨#[]⟩⟩⟩
def aw2 : DV := ⟨4, [], wS⟩
def aw3 : DV := ⟨0, [⟨k1, false, ⟨#[]⟩⟩], ⟨⟨#[]⟩, 0, ⟨#[]⟩, ⟨#[]⟩⟩⟩
def M1 : List Pr := [(k1, u1), (k2, u2), (k3, u3)]
def M2 : List Pr := [(k2, u2), (k3, u3)]
theorem aw_p1 : (planF [] 1 [] aw1.ops).2 = 0 := by decide +kernel
theorem aw_d1 : doF [] 1 [] aw1.ops = M1 := by decide +kernel
theorem aw_p3 : (planF M1 1 [] aw3.ops).2 = 0 := by decide +kernel
theorem aw_d3 : doF M1 1 [] aw3.ops = M2 := by decide +kernel
theorem aw_v : vcheck wS = 0 := by decide +kernel
theorem aw_f2 : fitsQ wS M2 = true := by decide +kernel
theorem aw_a : addE wS [] M1 = 0 := by decide +kernel
theorem aw_o0 : opV 0 < 4 := by decide +kernel
theorem aw_o4 : opV 4 = 4 := by decide +kernel
def tx : ByteArray := ⟨#[120]⟩
theorem aw_g1 : ∀ g, memG wS g M1 ≠ [] ↔ g = tx := by
 intro g
 have h1 : fieldF u1 wS.field = some tx := by decide +kernel
 have h2 : fieldF u2 wS.field = some tx := by decide +kernel
 have h3 : fieldF u3 wS.field = none := by decide +kernel
 rw [memG_ne]
 constructor
 ·rintro ⟨p, hp, he⟩
  simp only [M1, List.mem_cons, List.not_mem_nil, or_false] at hp
  rcases hp with rfl | rfl | rfl
  ·dsimp only at he; rw [h1] at he; injection he with he; exact he.symm
  ·dsimp only at he; rw [h2] at he; injection he with he; exact he.symm
  ·dsimp only at he; rw [h3] at he; cases he
 ·rintro rfl
  exact ⟨(k1, u1), by simp [M1], h1⟩
theorem aw_g2 : ∀ g, memG wS g M2 ≠ [] ↔ g = tx := by
 intro g
 have h2 : fieldF u2 wS.field = some tx := by decide +kernel
 have h3 : fieldF u3 wS.field = none := by decide +kernel
 rw [memG_ne]
 constructor
 ·rintro ⟨p, hp, he⟩
  simp only [M2, List.mem_cons, List.not_mem_nil, or_false] at hp
  rcases hp with rfl | rfl
  ·dsimp only at he; rw [h2] at he; injection he with he; exact he.symm
  ·dsimp only at he; rw [h3] at he; cases he
 ·rintro rfl
  exact ⟨(k2, u2), by simp [M2], h2⟩
theorem groups_one {w : Wv} {P : List Pr} {t : ByteArray} (h : ∀ g, memG w g P ≠ [] ↔ g = t) : sortB (groups w P) = [t] := by
 have hp : (groups w P).Perm [t] := perm_of_mem nodup_dd (by simp) fun x => by rw [mem_groups, h]; simp
 rw [sortB_perm hp]
 unfold sortB
 simp
theorem aw_r1 : rowsOf wS M1 = [⟨tx, [], 3⟩] := by
 unfold rowsOf
 rw [groups_one aw_g1]
 have h1 : fitF (sumOf wS (memG wS tx M1)) = true := by decide +kernel
 have h2 : valF (sumOf wS (memG wS tx M1)) = 3 := by decide +kernel
 simp only [List.map_cons, List.map_nil, rowOf, h1, h2, show wS.kind = 3 from rfl, if_true]
 rfl
theorem aw_r2 : rowsOf wS M2 = [⟨tx, [], -2⟩] := by
 unfold rowsOf
 rw [groups_one aw_g2]
 have h1 : fitF (sumOf wS (memG wS tx M2)) = true := by decide +kernel
 have h2 : valF (sumOf wS (memG wS tx M2)) = -2 := by decide +kernel
 simp only [List.map_cons, List.map_nil, rowOf, h1, h2, show wS.kind = 3 from rfl, if_true]
 rfl
end Go.Proofs.YtdioedabjaaboaaGreat.V
