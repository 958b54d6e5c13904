/- Views: what befalls a map and views over it, its outcomes as one; two such, side by side. -/
import Derived.Test.YtdioedabjaaboaaXY
import Derived.Test.YtdioedabjaaboaaXV
set_option linter.unusedVariables false
set_option linter.unusedSimpArgs false
namespace Go.Proofs.Ytdioedabjaaboaa.V
open Go Go.VL

theorem does_addU {S : Store} {mid vid : Nat} {L : List Pr} {T : WT} {t : V.T} (h : Ps S mid vid L T t) (d : DV) (hd : opV d.op = 4) (K : PV → Store → Prop)
    (hK : ∀ S' U, (∀ id x, id ≠ vid → S id = some x → S' id = some x) → U.map Prod.fst = (if addE d.view T L = 0 then [d.view] else []) → Vs S' vid (T ++ U) L → K (.int .i64 (addE d.view T L)) S') :
    PCalls Try.prog 9 [encPair mid vid, .agg (encDv d)] S K := by
  refine does_add h d hd K ?_ ?_
  · intro S' h1 h2
    refine hK S' [] (fun id x _ hx => h1 id x hx) (by rw [if_neg h2]; rfl) ?_
    rw [List.append_nil]
    exact h.vs.keep h1
  · intro S' gid h1 h2 h3
    have := hK S' [(d.view, gid)] h1 (by rw [if_pos h2]; rfl) h3
    rw [h2] at this
    exact this
/-- What operations answer; what the map is then. -/
def opsE (T : WT) (L : List Pr) (ops : List KO) : Int := if (planF L 1 [] ops).2 ≠ 0 then (planF L 1 [] ops).2 else takeE T (doF L 1 [] ops)
def opsM (T : WT) (L : List Pr) (ops : List KO) : List Pr := if opsE T L ops = 0 then doF L 1 [] ops else L
theorem opsM_len {T : WT} {L : List Pr} (hs : Sorted L) (ops : List KO) : (opsM T L ops).length ≤ L.length + 6 := by
  unfold opsM
  split
  · exact (doF_ok hs 1 [] ops).2
  · omega
theorem does_opsU {S : Store} {mid vid : Nat} {L : List Pr} {T : WT} {t : V.T} (h : Ps S mid vid L T t) (d : DV) (hd : opV d.op < 4) (hO : FitO d.ops) (hlen : L.length + 6 ≤ 400000) (K : PV → Store → Prop)
    (hK : ∀ S' N t', (∀ id x, id ≠ vid → id ≠ mid → S id = some x → S' id = some x) → N.map Prod.fst = T.map Prod.fst → Ps S' mid vid (opsM T L d.ops) N t' → K (.int .i64 (opsE T L d.ops)) S') :
    PCalls Try.prog 9 [encPair mid vid, .agg (encDv d)] S K := by
  have hse : Sorted L := h.list ▸ h.km.2.2
  refine does_ops h d hd hO K ?_ ?_ ?_
  · intro h1
    have e1 : opsE T L d.ops = (planF L 1 [] d.ops).2 := by unfold opsE; rw [if_pos h1]
    have e2 : opsM T L d.ops = L := by unfold opsM; rw [e1, if_neg h1]
    have := hK S T t (fun _ _ _ _ hx => hx) rfl (by rw [e2]; exact h)
    rw [e1] at this
    exact this
  · intro h1 h2 S' hs
    have e1 : opsE T L d.ops = 72 := by unfold opsE; rw [if_neg (by simp [h1]), h2]
    have e2 : opsM T L d.ops = L := by unfold opsM; rw [e1]; rfl
    have := hK S' T t (fun id x _ _ hx => hs id x hx) rfl (by rw [e2]; exact ⟨⟨hs _ _ h.km.1, h.km.2⟩, h.list, h.vs.keep hs, h.fit, h.len, h.few⟩)
    rw [e1] at this
    exact this
  · intro h1 h2 S' N t' hfr hN hkm hl hvs
    have e1 : opsE T L d.ops = 0 := by unfold opsE; rw [if_neg (by simp [h1]), h2]
    have e2 : opsM T L d.ops = doF L 1 [] d.ops := by unfold opsM; rw [if_pos e1]
    have hdl := (doF_ok hse 1 [] d.ops).2
    have hNl : N.length = T.length := by have := congrArg List.length hN; simpa using this
    have hfit : FitK (doF L 1 [] d.ops) := by
      rw [doF_take]
      exact fit_take _ _ h.fit (planF_fit h.fit hO)
    have := hK S' N t' hfr hN (by rw [e2]; exact ⟨hkm, hl, hvs, hfit, by omega, by have := h.few; omega⟩)
    rw [e1] at this
    exact this
theorem Ps.mid_at {S : Store} {mid vid : Nat} {L : List Pr} {T : WT} {t : V.T} (h : Ps S mid vid L T t) : ∀ cl st vs, S mid ≠ some [PV.mcon cl st vs] := fun cl st vs hx => by
  rw [h.km.1] at hx
  injection hx with hx
  injection hx with hx
  cases hx
theorem Ps.vid_at {S : Store} {mid vid : Nat} {L : List Pr} {T : WT} {t : V.T} (h : Ps S mid vid L T t) : ∀ cl st vs, S vid ≠ some [PV.mcon cl st vs] := fun cl st vs hx => by
  rw [h.vs.at_] at hx
  injection hx with hx
  injection hx with hx
  cases hx
theorem Ps.frame {S S' : Store} {mid vid : Nat} {L : List Pr} {T : WT} {t : V.T} (h : Ps S mid vid L T t) {x y : Nat} (h1 : mid ≠ x) (h2 : mid ≠ y) (h3 : vid ≠ x) (h4 : vid ≠ y) (hx : ∀ cl st vs, S x ≠ some [PV.mcon cl st vs]) (hy : ∀ cl st vs, S y ≠ some [PV.mcon cl st vs])
    (hfr : ∀ id c, id ≠ x → id ≠ y → S id = some c → S' id = some c) : Ps S' mid vid L T t :=
  ⟨⟨hfr _ _ h1 h2 h.km.1, h.km.2⟩, h.list, ⟨hfr _ _ h3 h4 h.vs.at_, fun u hu => by
    obtain ⟨kd, hkd⟩ := h.vs.tabs u hu
    exact ⟨kd, hkd.keepM fun id cl st vs hq => hfr _ _ (fun he => hx cl st vs (he ▸ hq)) (fun he => hy cl st vs (he ▸ hq)) hq⟩⟩, h.fit, h.len, h.few⟩
/-! ### views that are no sums -/
def NoS (T : WT) : Prop := ∀ t ∈ T, t.1.kind ≠ 3
theorem takeE_nos {O : WT} (h : NoS O) (U : WT) (P : List Pr) : takeE (O ++ U) P = takeE U P := by
  have e : (O ++ U).all (fun t => fitsQ t.1 P) = U.all (fun t => fitsQ t.1 P) := by
    rw [List.all_append]
    have : O.all (fun t => fitsQ t.1 P) = true := List.all_eq_true.2 fun t ht => fits_nosum (h t ht) P
    rw [this, Bool.true_and]
  unfold takeE
  rw [e]
theorem takeE_fst : ∀ {U Z : WT} (h : U.map Prod.fst = Z.map Prod.fst) (P : List Pr), takeE U P = takeE Z P := by
  intro U Z h P
  have e : ∀ {U Z : WT}, U.map Prod.fst = Z.map Prod.fst → U.all (fun t => fitsQ t.1 P) = Z.all (fun t => fitsQ t.1 P) := by
    intro U
    induction U with
    | nil => intro Z h; cases Z with
      | nil => rfl
      | cons v Z => simp at h
    | cons u U ih => intro Z h; cases Z with
      | nil => simp at h
      | cons v Z =>
        simp only [List.map_cons, List.cons.injEq] at h
        rw [List.all_cons, List.all_cons, h.1, ih h.2]
  unfold takeE
  rw [e h]
def Unl (n : ByteArray) (T : WT) : Prop := ∀ t ∈ T, same t.1.name n = false
theorem where_unl {n : ByteArray} : ∀ {O : WT} (h : Unl n O) (U : WT) (i : Nat), whereF n (O ++ U) i = whereF n U (i + O.length)
  | [], _, U, i => by simp
  | t :: O, h, U, i => by
    show (if same t.1.name n = true then (i : Int) else whereF n (O ++ U) (i + 1)) = _
    rw [if_neg (by rw [h t List.mem_cons_self]; decide), where_unl (fun u hu => h u (List.mem_cons_of_mem _ hu)) U (i + 1), List.length_cons]
    congr 1
    omega
theorem addE_unl {w : Wv} {O : WT} (h : Unl w.name O) (ho : O.length ≤ 3) (P : List Pr) : addE w O P = addE w [] P := by
  unfold addE
  have h1 : whereF w.name O 0 = -1 := by have := where_unl h [] 0; rw [List.append_nil] at this; exact this
  rw [h1, if_pos (show (O.length : Int) < 4 by omega)]
  rfl
theorem NoS.fst {O O' : WT} (h : NoS O) (he : O'.map Prod.fst = O.map Prod.fst) : NoS O' := fun t ht => by
  have : t.1 ∈ O.map Prod.fst := by rw [← he]; exact List.mem_map.2 ⟨t, ht, rfl⟩
  obtain ⟨u, hu, hx⟩ := List.mem_map.1 this
  rw [← hx]; exact h u hu
theorem Unl.fst {n : ByteArray} {O O' : WT} (h : Unl n O) (he : O'.map Prod.fst = O.map Prod.fst) : Unl n O' := fun t ht => by
  have : t.1 ∈ O.map Prod.fst := by rw [← he]; exact List.mem_map.2 ⟨t, ht, rfl⟩
  obtain ⟨u, hu, hx⟩ := List.mem_map.1 this
  rw [← hx]; exact h u hu
/-- Two maps, and views over them: the first one's are some others that are no sums, and then those of the second one. -/
structure Two (S : Store) (a1 a2 b1 b2 : Nat) (w : Wv) (L : List Pr) (O U Z : WT) (t u : V.T) : Prop where
  a : Ps S a1 a2 L (O ++ U) t
  b : Ps S b1 b2 L Z u
  n1 : b1 ≠ a1
  n2 : b1 ≠ a2
  n3 : b2 ≠ a1
  n4 : b2 ≠ a2
  nos : NoS O
  unl : Unl w.name O
  few : O.length ≤ 3
  fst : U.map Prod.fst = Z.map Prod.fst
theorem Two.bstep {S S' : Store} {a1 a2 b1 b2 : Nat} {w : Wv} {L L' : List Pr} {O U Z : WT} {t u : V.T} (h : Two S a1 a2 b1 b2 w L O U Z t u) {T' : WT} {t' : V.T} (hfr : ∀ id x, id ≠ a2 → id ≠ a1 → S id = some x → S' id = some x) : Ps S' b1 b2 L Z u :=
  h.b.frame h.n2 h.n1 h.n4 h.n3 h.a.vid_at h.a.mid_at hfr
end Go.Proofs.Ytdioedabjaaboaa.V
