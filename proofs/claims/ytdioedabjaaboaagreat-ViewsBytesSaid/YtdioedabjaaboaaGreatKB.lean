/- Maps: one node over two, two trees joined. -/
import Derived.Test.YtdioedabjaaboaaGreatKA
import Derived.Test.YtdioedabjaaboaaGreatVLT
set_option linter.unusedVariables false
set_option linter.unusedSimpArgs false
namespace Go.Proofs.YtdioedabjaaboaaGreat.V
open Go Go.VL

theorem depth_spec (t : T) (S : Store) : PRet Tryz.prog 122 [enc t] S (.int .i64 t.dep) := by
 intro K hK
 refine pcalls_of (C := C) (fun _ => false) (fun _ => false) Tryz.func122 rfl rfl (by simp [Tryz.f122]) ?_
 cases t <;> (simp -implicitDefEqProofs only [go_sem, ↓reduceIte, Nat.reduceEqDiff, Nat.reduceLT, Nat.reduceLeDiff, Nat.reduceAdd, Nat.reduceMul, Nat.reduceSub, reduceCtorEq, Nat.reduceMod, Nat.reduceBEq, Int.reduceBEq, Int.reduceBNe, Int.reduceToNat, Tryz.f122, enc_node, enc_nil]; exact ⟨S, fun _ _ h => h, hK⟩)
theorem size_spec (t : T) (S : Store) : PRet Tryz.prog 87 [enc t] S (.int .i64 t.siz) := by
 intro K hK
 refine pcalls_of (C := C) (fun _ => false) (fun _ => false) Tryz.func87 rfl rfl (by simp [Tryz.f87]) ?_
 cases t <;> (simp -implicitDefEqProofs only [go_sem, ↓reduceIte, Nat.reduceEqDiff, Nat.reduceLT, Nat.reduceLeDiff, Nat.reduceAdd, Nat.reduceMul, Nat.reduceSub, reduceCtorEq, Nat.reduceMod, Nat.reduceBEq, Int.reduceBEq, Int.reduceBNe, Int.reduceToNat, Tryz.f87, enc_node, enc_nil]; exact ⟨S, fun _ _ h => h, hK⟩)

theorem over_spec {l m : T} {k v : ByteArray} (hl : Few l) (hm : Few m) (S : Store) : PRet Tryz.prog 115 [enc l, .agg [.str k, .str v], enc m] S (enc (over l k v m)) := by
 intro K hK
 refine pcalls_of (C := C) (fun d => d == 23) (fun _ => false) Tryz.func115 rfl rfl (by simp [Tryz.f115]) ?_
 simp -implicitDefEqProofs only [go_sem, ↓reduceIte, Nat.reduceEqDiff, Nat.reduceLT, Nat.reduceLeDiff, Nat.reduceAdd, Nat.reduceMul, Nat.reduceSub, reduceCtorEq, Nat.reduceMod, Nat.reduceBEq, Int.reduceBEq, Int.reduceBNe, Int.reduceToNat, Tryz.f115]
 obtain ⟨a1, a2, a3, a4⟩ := hl
 obtain ⟨b1, b2, b3, b4⟩ := hm
 refine vwp_draw (by decide +kernel) ?_
 simp -implicitDefEqProofs only [go_sem, ↓reduceIte, Nat.reduceEqDiff, Nat.reduceLT, Nat.reduceLeDiff, Nat.reduceAdd, Nat.reduceMul, Nat.reduceSub, reduceCtorEq, Nat.reduceMod, Nat.reduceBEq, Int.reduceBEq, Int.reduceBNe, Int.reduceToNat]
 refine q_call _ (by simp -implicitDefEqProofs only [go_sem, ↓reduceIte, Nat.reduceEqDiff]; exact depth_spec _ _) (by decide) rfl ?_
 simp -implicitDefEqProofs only [go_sem, ↓reduceIte, Nat.reduceEqDiff, Nat.reduceLT, Nat.reduceLeDiff, Nat.reduceAdd, Nat.reduceMul, Nat.reduceSub, reduceCtorEq, Nat.reduceMod, Nat.reduceBEq, Int.reduceBEq, Int.reduceBNe, Int.reduceToNat]
 refine q_call _ (by simp -implicitDefEqProofs only [go_sem, ↓reduceIte, Nat.reduceEqDiff]; exact depth_spec _ _) (by decide) rfl ?_
 simp -implicitDefEqProofs only [go_sem, ↓reduceIte, Nat.reduceEqDiff, Nat.reduceLT, Nat.reduceLeDiff, Nat.reduceAdd, Nat.reduceMul, Nat.reduceSub, reduceCtorEq, Nat.reduceMod, Nat.reduceBEq, Int.reduceBEq, Int.reduceBNe, Int.reduceToNat]
 refine q_call _ (by simp -implicitDefEqProofs only [go_sem, ↓reduceIte, Nat.reduceEqDiff]; exact size_spec _ _) (by decide) rfl ?_
 simp -implicitDefEqProofs only [go_sem, ↓reduceIte, Nat.reduceEqDiff, Nat.reduceLT, Nat.reduceLeDiff, Nat.reduceAdd, Nat.reduceMul, Nat.reduceSub, reduceCtorEq, Nat.reduceMod, Nat.reduceBEq, Int.reduceBEq, Int.reduceBNe, Int.reduceToNat]
 refine q_call _ (by simp -implicitDefEqProofs only [go_sem, ↓reduceIte, Nat.reduceEqDiff]; exact size_spec _ _) (by decide) rfl ?_
 simp -implicitDefEqProofs only [go_sem, ↓reduceIte, Nat.reduceEqDiff, Nat.reduceLT, Nat.reduceLeDiff, Nat.reduceAdd, Nat.reduceMul, Nat.reduceSub, reduceCtorEq, Nat.reduceMod, Nat.reduceBEq, Int.reduceBEq, Int.reduceBNe, Int.reduceToNat]
 have h1 : (if m.dep > l.dep then m.dep else l.dep) = max l.dep m.dep := by omega
 have h2 : IntKind.i64.wrap (1 + max l.dep m.dep) = 1 + max l.dep m.dep := wrap64 (by omega) (by omega)
 have h3 : IntKind.i64.wrap (1 + l.siz) = 1 + l.siz := wrap64 (by omega) (by omega)
 have h4 : IntKind.i64.wrap (1 + l.siz + m.siz) = 1 + l.siz + m.siz := wrap64 (by omega) (by omega)
 rw [h1, h2, h3, h4]
 exact ⟨S, fun _ _ h => h, hK⟩

theorem left_spec {l ml mr : T} {k v mk mv : ByteArray} {d s d' s' : Int} (hl : Few l) (hml : Few ml) (hmr : Few mr) (ho : Few (over l k v ml)) (S : Store) :
  PRet Tryz.prog 137 [enc (.node k v l (.node mk mv ml mr d' s') d s)] S (enc (over (over l k v ml) mk mv mr)) := by
 intro K hK
 refine pcalls_of (C := C) (fun _ => false) (fun _ => false) Tryz.func137 rfl rfl (by simp [Tryz.f137]) ?_
 simp -implicitDefEqProofs only [go_sem, ↓reduceIte, Nat.reduceEqDiff, Nat.reduceLT, Nat.reduceLeDiff, Nat.reduceAdd, Nat.reduceMul, Nat.reduceSub, reduceCtorEq, Nat.reduceMod, Nat.reduceBEq, Int.reduceBEq, Int.reduceBNe, Int.reduceToNat, Tryz.f137, enc_node]
 refine vwp_draw (by decide +kernel) ?_
 simp -implicitDefEqProofs only [go_sem, ↓reduceIte, Nat.reduceEqDiff, Nat.reduceLT, Nat.reduceLeDiff, Nat.reduceAdd, Nat.reduceMul, Nat.reduceSub, reduceCtorEq, Nat.reduceMod, Nat.reduceBEq, Int.reduceBEq, Int.reduceBNe, Int.reduceToNat]
 refine q_call _ (by simp -implicitDefEqProofs only [go_sem, ↓reduceIte, Nat.reduceEqDiff]; exact over_spec hl hml _) (by decide) rfl ?_
 simp -implicitDefEqProofs only [go_sem, ↓reduceIte, Nat.reduceEqDiff, Nat.reduceLT, Nat.reduceLeDiff, Nat.reduceAdd, Nat.reduceMul, Nat.reduceSub, reduceCtorEq, Nat.reduceMod, Nat.reduceBEq, Int.reduceBEq, Int.reduceBNe, Int.reduceToNat]
 refine q_call _ (by simp -implicitDefEqProofs only [go_sem, ↓reduceIte, Nat.reduceEqDiff]; exact over_spec ho hmr _) (by decide) rfl ?_
 simp -implicitDefEqProofs only [go_sem, ↓reduceIte, Nat.reduceEqDiff, Nat.reduceLT, Nat.reduceLeDiff, Nat.reduceAdd, Nat.reduceMul, Nat.reduceSub, reduceCtorEq, Nat.reduceMod, Nat.reduceBEq, Int.reduceBEq, Int.reduceBNe, Int.reduceToNat]
 exact ⟨S, fun _ _ h => h, hK⟩
theorem right_spec {r ll lr : T} {k v lk lv : ByteArray} {d s d' s' : Int} (hr : Few r) (hll : Few ll) (hlr : Few lr) (ho : Few (over lr k v r)) (S : Store) :
  PRet Tryz.prog 138 [enc (.node k v (.node lk lv ll lr d' s') r d s)] S (enc (over ll lk lv (over lr k v r))) := by
 intro K hK
 refine pcalls_of (C := C) (fun _ => false) (fun _ => false) Tryz.func138 rfl rfl (by simp [Tryz.f138]) ?_
 simp -implicitDefEqProofs only [go_sem, ↓reduceIte, Nat.reduceEqDiff, Nat.reduceLT, Nat.reduceLeDiff, Nat.reduceAdd, Nat.reduceMul, Nat.reduceSub, reduceCtorEq, Nat.reduceMod, Nat.reduceBEq, Int.reduceBEq, Int.reduceBNe, Int.reduceToNat, Tryz.f138, enc_node]
 refine vwp_draw (by decide +kernel) ?_
 simp -implicitDefEqProofs only [go_sem, ↓reduceIte, Nat.reduceEqDiff, Nat.reduceLT, Nat.reduceLeDiff, Nat.reduceAdd, Nat.reduceMul, Nat.reduceSub, reduceCtorEq, Nat.reduceMod, Nat.reduceBEq, Int.reduceBEq, Int.reduceBNe, Int.reduceToNat]
 refine q_call _ (by simp -implicitDefEqProofs only [go_sem, ↓reduceIte, Nat.reduceEqDiff]; exact over_spec hlr hr _) (by decide) rfl ?_
 refine q_call _ (by simp -implicitDefEqProofs only [go_sem, ↓reduceIte, Nat.reduceEqDiff]; exact over_spec hll ho _) (by decide) rfl ?_
 simp -implicitDefEqProofs only [go_sem, ↓reduceIte, Nat.reduceEqDiff, Nat.reduceLT, Nat.reduceLeDiff, Nat.reduceAdd, Nat.reduceMul, Nat.reduceSub, reduceCtorEq, Nat.reduceMod, Nat.reduceBEq, Int.reduceBEq, Int.reduceBNe, Int.reduceToNat]
 exact ⟨S, fun _ _ h => h, hK⟩


def Grown (l r : T) : Prop := r.dep = l.dep ∨ (r.dep = l.dep + 1 ∧ ∃ rk rv a b d s, r = .node rk rv a b d s ∧ b.dep = a.dep + 1)

theorem downLess_spec {m : T} (hm : Ok m) (k v : ByteArray) : ∀ (l : T), Ok l → m.dep + 1 < l.dep → l.list.length + m.list.length + 1 ≤ 1000000 →
  ∃ r, Ok r ∧ r.list = l.list ++ (k, v) :: m.list ∧ Grown l r ∧ ∀ S, PRet Tryz.prog 123 [enc l, .agg [.str k, .str v], enc m] S (enc r)
 | .nil, _, h, _ => by have := (ok_size m hm).2.1; simp only [dep_nil, dep_node] at h; omega
 | .node lk lv ll lr d s, hl, h, hn => by
  obtain ⟨hll, hlr, hd, hs, hb1, hb2⟩ := hl
  simp only [dep_nil, dep_node, T.list, List.length_append, List.length_cons] at h hn
  obtain ⟨m1, m2, m3⟩ := ok_size m hm
  obtain ⟨l1, l2, l3⟩ := ok_size ll hll
  obtain ⟨r1, r2, r3⟩ := ok_size lr hlr
  have nm := ok_n hm
  have nl := ok_n hll
  have nr := ok_n hlr
  have fm := nm.few (by omega)
  have fl := nl.few (by omega)
  have fr := nr.few (by omega)
  have hw1 : IntKind.i64.wrap (m.dep + 1) = m.dep + 1 := wrap64 (by omega) (by omega)
  have hw2 : IntKind.i64.wrap (ll.dep + 1) = ll.dep + 1 := wrap64 (by omega) (by omega)
  by_cases c1 : lr.dep ≤ m.dep + 1
  ·by_cases c2 : 1 + max lr.dep m.dep ≤ ll.dep + 1
   ·refine ⟨over ll lk lv (over lr k v m), ok_over hll (ok_over hlr hm (by omega) (by omega)) (by rw [over_dep]; omega) (by rw [over_dep]; omega), by simp [over_list, T.list], ?_, fun S K hK => ?_⟩
    ·by_cases e : 1 + max ll.dep (1 + max lr.dep m.dep) = d
     ·exact .inl e
     ·refine .inr ⟨?_, lk, lv, ll, over lr k v m, _, _, rfl, ?_⟩
      ·rw [over_dep, over_dep]; simp only [dep_nil, dep_node]; omega
      ·rw [over_dep]; omega
    ·have fx := (few_over k v nr nm).few (by omega)
     refine pcalls_of (C := C) (fun _ => false) (fun _ => false) Tryz.func123 rfl rfl (by simp [Tryz.f123]) ?_
     simp -implicitDefEqProofs only [go_sem, ↓reduceIte, Nat.reduceEqDiff, Nat.reduceLT, Nat.reduceLeDiff, Nat.reduceAdd, Nat.reduceMul, Nat.reduceSub, reduceCtorEq, Nat.reduceMod, Nat.reduceBEq, Int.reduceBEq, Int.reduceBNe, Int.reduceToNat, Tryz.f123, enc_node]
     refine depth_spec lr _ _ ?_
     simp -implicitDefEqProofs only [go_sem, ↓reduceIte, Nat.reduceEqDiff, Nat.reduceLT, Nat.reduceLeDiff, Nat.reduceAdd, Nat.reduceMul, Nat.reduceSub, reduceCtorEq, Nat.reduceMod, Nat.reduceBEq, Int.reduceBEq, Int.reduceBNe, Int.reduceToNat]
     refine depth_spec m _ _ ?_
     simp -implicitDefEqProofs only [go_sem, ↓reduceIte, Nat.reduceEqDiff, Nat.reduceLT, Nat.reduceLeDiff, Nat.reduceAdd, Nat.reduceMul, Nat.reduceSub, reduceCtorEq, Nat.reduceMod, Nat.reduceBEq, Int.reduceBEq, Int.reduceBNe, Int.reduceToNat, hw1, c1]
     refine vwp_draw (by decide +kernel) ?_
     simp -implicitDefEqProofs only [go_sem, ↓reduceIte, Nat.reduceEqDiff, Nat.reduceLT, Nat.reduceLeDiff, Nat.reduceAdd, Nat.reduceMul, Nat.reduceSub, reduceCtorEq, Nat.reduceMod, Nat.reduceBEq, Int.reduceBEq, Int.reduceBNe, Int.reduceToNat]
     refine q_call _ (by simp -implicitDefEqProofs only [go_sem, ↓reduceIte, Nat.reduceEqDiff]; exact over_spec fr fm _) (by decide) rfl ?_
     simp -implicitDefEqProofs only [go_sem, ↓reduceIte, Nat.reduceEqDiff, Nat.reduceLT, Nat.reduceLeDiff, Nat.reduceAdd, Nat.reduceMul, Nat.reduceSub, reduceCtorEq, Nat.reduceMod, Nat.reduceBEq, Int.reduceBEq, Int.reduceBNe, Int.reduceToNat, enc_over]
     refine vwp_draw (by decide +kernel) ?_
     simp -implicitDefEqProofs only [go_sem, ↓reduceIte, Nat.reduceEqDiff, Nat.reduceLT, Nat.reduceLeDiff, Nat.reduceAdd, Nat.reduceMul, Nat.reduceSub, reduceCtorEq, Nat.reduceMod, Nat.reduceBEq, Int.reduceBEq, Int.reduceBNe, Int.reduceToNat]
     refine q_call _ (by simp -implicitDefEqProofs only [go_sem, ↓reduceIte, Nat.reduceEqDiff]; exact depth_spec ll _) (by decide) rfl ?_
     simp -implicitDefEqProofs only [go_sem, ↓reduceIte, Nat.reduceEqDiff, Nat.reduceLT, Nat.reduceLeDiff, Nat.reduceAdd, Nat.reduceMul, Nat.reduceSub, reduceCtorEq, Nat.reduceMod, Nat.reduceBEq, Int.reduceBEq, Int.reduceBNe, Int.reduceToNat, hw2, c2]
     refine vwp_draw (by decide +kernel) ?_
     simp -implicitDefEqProofs only [go_sem, ↓reduceIte, Nat.reduceEqDiff, Nat.reduceLT, Nat.reduceLeDiff, Nat.reduceAdd, Nat.reduceMul, Nat.reduceSub, reduceCtorEq, Nat.reduceMod, Nat.reduceBEq, Int.reduceBEq, Int.reduceBNe, Int.reduceToNat]
     refine q_call _ (by simp -implicitDefEqProofs only [go_sem, ↓reduceIte, Nat.reduceEqDiff]; exact over_spec fl fx _) (by decide) rfl ?_
     simp -implicitDefEqProofs only [go_sem, ↓reduceIte, Nat.reduceEqDiff, Nat.reduceLT, Nat.reduceLeDiff, Nat.reduceAdd, Nat.reduceMul, Nat.reduceSub, reduceCtorEq, Nat.reduceMod, Nat.reduceBEq, Int.reduceBEq, Int.reduceBNe, Int.reduceToNat]
     exact ⟨S, fun _ _ h => h, hK⟩
   ·obtain ⟨rk, rv, rl, rr, rd, rs, rfl⟩ : ∃ rk rv rl rr rd rs, lr = .node rk rv rl rr rd rs := by
     cases lr with
     | nil => simp only [dep_nil, dep_node] at *; omega
     | node rk rv rl rr rd rs => exact ⟨_, _, _, _, _, _, rfl⟩
    obtain ⟨hrl, hrr, hrd, hrs, hrb1, hrb2⟩ := hlr
    simp only [dep_nil, dep_node, T.list, List.length_append, List.length_cons] at *
    obtain ⟨p1, p2, p3⟩ := ok_size rl hrl
    obtain ⟨q1, q2, q3⟩ := ok_size rr hrr
    have npl := ok_n hrl
    have nqr := ok_n hrr
    have f1 := npl.few (by omega)
    have f2 := nqr.few (by omega)
    have n3 := few_over k v nqr nm
    have f3 := n3.few (by omega)
    have n4 := few_over rk rv npl n3
    have f4 := n4.few (by omega)
    have f5 := (few_over lk lv nl npl).few (by omega)
    refine ⟨over (over ll lk lv rl) rk rv (over rr k v m), ok_over (ok_over hll hrl (by omega) (by omega)) (ok_over hrr hm (by omega) (by omega)) (by rw [over_dep, over_dep]; omega) (by rw [over_dep, over_dep]; omega), by simp [over_list, T.list], ?_, fun S K hK => ?_⟩
    ·refine .inl ?_
     rw [over_dep, over_dep, over_dep]
     simp only [dep_nil, dep_node]
     omega
    ·refine pcalls_of (C := C) (fun _ => false) (fun _ => false) Tryz.func123 rfl rfl (by simp [Tryz.f123]) ?_
     simp -implicitDefEqProofs only [go_sem, ↓reduceIte, Nat.reduceEqDiff, Nat.reduceLT, Nat.reduceLeDiff, Nat.reduceAdd, Nat.reduceMul, Nat.reduceSub, reduceCtorEq, Nat.reduceMod, Nat.reduceBEq, Int.reduceBEq, Int.reduceBNe, Int.reduceToNat, Tryz.f123, enc_node]
     refine depth_spec (.node rk rv rl rr rd rs) _ _ ?_
     simp -implicitDefEqProofs only [go_sem, ↓reduceIte, Nat.reduceEqDiff, Nat.reduceLT, Nat.reduceLeDiff, Nat.reduceAdd, Nat.reduceMul, Nat.reduceSub, reduceCtorEq, Nat.reduceMod, Nat.reduceBEq, Int.reduceBEq, Int.reduceBNe, Int.reduceToNat, dep_nil, dep_node]
     refine depth_spec m _ _ ?_
     simp -implicitDefEqProofs only [go_sem, ↓reduceIte, Nat.reduceEqDiff, Nat.reduceLT, Nat.reduceLeDiff, Nat.reduceAdd, Nat.reduceMul, Nat.reduceSub, reduceCtorEq, Nat.reduceMod, Nat.reduceBEq, Int.reduceBEq, Int.reduceBNe, Int.reduceToNat, hw1, c1]
     refine vwp_draw (by decide +kernel) ?_
     simp -implicitDefEqProofs only [go_sem, ↓reduceIte, Nat.reduceEqDiff, Nat.reduceLT, Nat.reduceLeDiff, Nat.reduceAdd, Nat.reduceMul, Nat.reduceSub, reduceCtorEq, Nat.reduceMod, Nat.reduceBEq, Int.reduceBEq, Int.reduceBNe, Int.reduceToNat]
     refine q_call _ (by simp -implicitDefEqProofs only [go_sem, ↓reduceIte, Nat.reduceEqDiff]; exact over_spec (l := .node rk rv rl rr rd rs) fr fm _) (by decide) rfl ?_
     simp -implicitDefEqProofs only [go_sem, ↓reduceIte, Nat.reduceEqDiff, Nat.reduceLT, Nat.reduceLeDiff, Nat.reduceAdd, Nat.reduceMul, Nat.reduceSub, reduceCtorEq, Nat.reduceMod, Nat.reduceBEq, Int.reduceBEq, Int.reduceBNe, Int.reduceToNat, enc_over, enc_node, dep_nil, dep_node]
     refine vwp_draw (by decide +kernel) ?_
     simp -implicitDefEqProofs only [go_sem, ↓reduceIte, Nat.reduceEqDiff, Nat.reduceLT, Nat.reduceLeDiff, Nat.reduceAdd, Nat.reduceMul, Nat.reduceSub, reduceCtorEq, Nat.reduceMod, Nat.reduceBEq, Int.reduceBEq, Int.reduceBNe, Int.reduceToNat]
     refine q_call _ (by simp -implicitDefEqProofs only [go_sem, ↓reduceIte, Nat.reduceEqDiff]; exact depth_spec ll _) (by decide) rfl ?_
     simp -implicitDefEqProofs only [go_sem, ↓reduceIte, Nat.reduceEqDiff, Nat.reduceLT, Nat.reduceLeDiff, Nat.reduceAdd, Nat.reduceMul, Nat.reduceSub, reduceCtorEq, Nat.reduceMod, Nat.reduceBEq, Int.reduceBEq, Int.reduceBNe, Int.reduceToNat, hw2, c2]
     refine vwp_draw (by decide +kernel) ?_
     simp -implicitDefEqProofs only [go_sem, ↓reduceIte, Nat.reduceEqDiff, Nat.reduceLT, Nat.reduceLeDiff, Nat.reduceAdd, Nat.reduceMul, Nat.reduceSub, reduceCtorEq, Nat.reduceMod, Nat.reduceBEq, Int.reduceBEq, Int.reduceBNe, Int.reduceToNat]
     refine q_call _ (by simp -implicitDefEqProofs only [go_sem, ↓reduceIte, Nat.reduceEqDiff]; exact right_spec fm f1 f2 f3 _) (by decide) rfl ?_
     refine q_call _ (by simp -implicitDefEqProofs only [go_sem, ↓reduceIte, Nat.reduceEqDiff]; exact over_spec fl f4 _) (by decide) rfl ?_
     refine q_call _ (by simp -implicitDefEqProofs only [go_sem, ↓reduceIte, Nat.reduceEqDiff]; exact left_spec fl f1 f3 f5 _) (by decide) rfl ?_
     simp -implicitDefEqProofs only [go_sem, ↓reduceIte, Nat.reduceEqDiff, Nat.reduceLT, Nat.reduceLeDiff, Nat.reduceAdd, Nat.reduceMul, Nat.reduceSub, reduceCtorEq, Nat.reduceMod, Nat.reduceBEq, Int.reduceBEq, Int.reduceBNe, Int.reduceToNat]
     exact ⟨S, fun _ _ h => h, hK⟩
  ·obtain ⟨x, hx, hxl, hxg, hxp⟩ := downLess_spec hm k v lr hlr (by omega) (by omega)
   obtain ⟨xk, xv, xl, xr, xd, xs, rfl⟩ : ∃ xk xv xl xr xd xs, x = .node xk xv xl xr xd xs := by
    cases x with
    | nil => rcases hxg with h | ⟨h, _⟩ <;> simp only [dep_nil] at h <;> omega
    | node => exact ⟨_, _, _, _, _, _, rfl⟩
   have hxo := hx
   obtain ⟨hxl', hxr', hxd, hxs, hxb1, hxb2⟩ := hx
   have nx := ok_n hxo
   have hlen : (T.node xk xv xl xr xd xs).list.length = lr.list.length + m.list.length + 1 := by rw [hxl]; simp; omega
   rw [hlen] at nx
   simp only [T.list, List.length_append, List.length_cons] at hlen
   have fx := nx.few (by omega)
   have n1 := ok_n hxl'
   have n2 := ok_n hxr'
   have f1 := n1.few (by omega)
   have f2 := n2.few (by omega)
   have f3 := (few_over lk lv nl n1).few (by omega)
   obtain ⟨_, g1, _⟩ := ok_size xl hxl'
   obtain ⟨_, g2, _⟩ := ok_size xr hxr'
   by_cases c2 : xd ≤ ll.dep + 1
   ·refine ⟨over ll lk lv (.node xk xv xl xr xd xs), ok_over hll hxo (by rw [dep_node]; rcases hxg with h | ⟨h, _⟩ <;> rw [dep_node] at h <;> omega) (by rw [dep_node]; omega), by rw [over_list, hxl]; simp [T.list], ?_, fun S K hK => ?_⟩
    ·by_cases e : 1 + max ll.dep xd = d
     ·exact .inl e
     ·refine .inr ⟨?_, lk, lv, ll, .node xk xv xl xr xd xs, _, _, rfl, ?_⟩
      ·rw [over_dep, dep_node, dep_node]; rcases hxg with h | ⟨h, _⟩ <;> rw [dep_node] at h <;> omega
      ·rw [dep_node]; rcases hxg with h | ⟨h, _⟩ <;> rw [dep_node] at h <;> omega
    ·refine pcalls_of (C := C) (fun _ => false) (fun _ => false) Tryz.func123 rfl rfl (by simp [Tryz.f123]) ?_
     simp -implicitDefEqProofs only [go_sem, ↓reduceIte, Nat.reduceEqDiff, Nat.reduceLT, Nat.reduceLeDiff, Nat.reduceAdd, Nat.reduceMul, Nat.reduceSub, reduceCtorEq, Nat.reduceMod, Nat.reduceBEq, Int.reduceBEq, Int.reduceBNe, Int.reduceToNat, Tryz.f123, enc_node]
     refine depth_spec lr _ _ ?_
     simp -implicitDefEqProofs only [go_sem, ↓reduceIte, Nat.reduceEqDiff, Nat.reduceLT, Nat.reduceLeDiff, Nat.reduceAdd, Nat.reduceMul, Nat.reduceSub, reduceCtorEq, Nat.reduceMod, Nat.reduceBEq, Int.reduceBEq, Int.reduceBNe, Int.reduceToNat]
     refine depth_spec m _ _ ?_
     simp -implicitDefEqProofs only [go_sem, ↓reduceIte, Nat.reduceEqDiff, Nat.reduceLT, Nat.reduceLeDiff, Nat.reduceAdd, Nat.reduceMul, Nat.reduceSub, reduceCtorEq, Nat.reduceMod, Nat.reduceBEq, Int.reduceBEq, Int.reduceBNe, Int.reduceToNat, hw1, c1]
     refine vwp_draw (by decide +kernel) ?_
     simp -implicitDefEqProofs only [go_sem, ↓reduceIte, Nat.reduceEqDiff, Nat.reduceLT, Nat.reduceLeDiff, Nat.reduceAdd, Nat.reduceMul, Nat.reduceSub, reduceCtorEq, Nat.reduceMod, Nat.reduceBEq, Int.reduceBEq, Int.reduceBNe, Int.reduceToNat]
     refine q_call _ (by simp -implicitDefEqProofs only [go_sem, ↓reduceIte, Nat.reduceEqDiff]; exact hxp _) (by decide) rfl ?_
     simp -implicitDefEqProofs only [go_sem, ↓reduceIte, Nat.reduceEqDiff, Nat.reduceLT, Nat.reduceLeDiff, Nat.reduceAdd, Nat.reduceMul, Nat.reduceSub, reduceCtorEq, Nat.reduceMod, Nat.reduceBEq, Int.reduceBEq, Int.reduceBNe, Int.reduceToNat, enc_node]
     refine vwp_draw (by decide +kernel) ?_
     simp -implicitDefEqProofs only [go_sem, ↓reduceIte, Nat.reduceEqDiff, Nat.reduceLT, Nat.reduceLeDiff, Nat.reduceAdd, Nat.reduceMul, Nat.reduceSub, reduceCtorEq, Nat.reduceMod, Nat.reduceBEq, Int.reduceBEq, Int.reduceBNe, Int.reduceToNat]
     refine q_call _ (by simp -implicitDefEqProofs only [go_sem, ↓reduceIte, Nat.reduceEqDiff]; exact over_spec (m := .node xk xv xl xr xd xs) fl fx _) (by decide) rfl ?_
     simp -implicitDefEqProofs only [go_sem, ↓reduceIte, Nat.reduceEqDiff, Nat.reduceLT, Nat.reduceLeDiff, Nat.reduceAdd, Nat.reduceMul, Nat.reduceSub, reduceCtorEq, Nat.reduceMod, Nat.reduceBEq, Int.reduceBEq, Int.reduceBNe, Int.reduceToNat]
     refine vwp_draw (by decide +kernel) ?_
     simp -implicitDefEqProofs only [go_sem, ↓reduceIte, Nat.reduceEqDiff, Nat.reduceLT, Nat.reduceLeDiff, Nat.reduceAdd, Nat.reduceMul, Nat.reduceSub, reduceCtorEq, Nat.reduceMod, Nat.reduceBEq, Int.reduceBEq, Int.reduceBNe, Int.reduceToNat]
     refine q_call _ (by simp -implicitDefEqProofs only [go_sem, ↓reduceIte, Nat.reduceEqDiff]; exact depth_spec ll _) (by decide) rfl ?_
     simp -implicitDefEqProofs only [go_sem, ↓reduceIte, Nat.reduceEqDiff, Nat.reduceLT, Nat.reduceLeDiff, Nat.reduceAdd, Nat.reduceMul, Nat.reduceSub, reduceCtorEq, Nat.reduceMod, Nat.reduceBEq, Int.reduceBEq, Int.reduceBNe, Int.reduceToNat, hw2, c2]
     exact ⟨S, fun _ _ h => h, hK⟩
   ·have hg : xd = ll.dep + 2 ∧ xr.dep = xl.dep + 1 := by
     rcases hxg with h | ⟨h, rk, rv, a, b, d', s', he, h2⟩
     ·rw [dep_node] at h; omega
     ·rw [dep_node] at h
      injection he with _ _ e1 e2 _ _
      subst e1
      subst e2
      omega
    refine ⟨over (over ll lk lv xl) xk xv xr, ok_over (ok_over hll hxl' (by omega) (by omega)) hxr' (by rw [over_dep]; omega) (by rw [over_dep]; omega), ?_, ?_, fun S K hK => ?_⟩
    ·simp only [T.list] at hxl ⊢
     simp only [over_list, List.append_assoc, List.cons_append, hxl]
    ·refine .inl ?_
     rw [over_dep, over_dep, dep_node]
     rcases hxg with h | ⟨h, _⟩ <;> rw [dep_node] at h <;> omega
    ·refine pcalls_of (C := C) (fun _ => false) (fun _ => false) Tryz.func123 rfl rfl (by simp [Tryz.f123]) ?_
     simp -implicitDefEqProofs only [go_sem, ↓reduceIte, Nat.reduceEqDiff, Nat.reduceLT, Nat.reduceLeDiff, Nat.reduceAdd, Nat.reduceMul, Nat.reduceSub, reduceCtorEq, Nat.reduceMod, Nat.reduceBEq, Int.reduceBEq, Int.reduceBNe, Int.reduceToNat, Tryz.f123, enc_node]
     refine depth_spec lr _ _ ?_
     simp -implicitDefEqProofs only [go_sem, ↓reduceIte, Nat.reduceEqDiff, Nat.reduceLT, Nat.reduceLeDiff, Nat.reduceAdd, Nat.reduceMul, Nat.reduceSub, reduceCtorEq, Nat.reduceMod, Nat.reduceBEq, Int.reduceBEq, Int.reduceBNe, Int.reduceToNat]
     refine depth_spec m _ _ ?_
     simp -implicitDefEqProofs only [go_sem, ↓reduceIte, Nat.reduceEqDiff, Nat.reduceLT, Nat.reduceLeDiff, Nat.reduceAdd, Nat.reduceMul, Nat.reduceSub, reduceCtorEq, Nat.reduceMod, Nat.reduceBEq, Int.reduceBEq, Int.reduceBNe, Int.reduceToNat, hw1, c1]
     refine vwp_draw (by decide +kernel) ?_
     simp -implicitDefEqProofs only [go_sem, ↓reduceIte, Nat.reduceEqDiff, Nat.reduceLT, Nat.reduceLeDiff, Nat.reduceAdd, Nat.reduceMul, Nat.reduceSub, reduceCtorEq, Nat.reduceMod, Nat.reduceBEq, Int.reduceBEq, Int.reduceBNe, Int.reduceToNat]
     refine q_call _ (by simp -implicitDefEqProofs only [go_sem, ↓reduceIte, Nat.reduceEqDiff]; exact hxp _) (by decide) rfl ?_
     simp -implicitDefEqProofs only [go_sem, ↓reduceIte, Nat.reduceEqDiff, Nat.reduceLT, Nat.reduceLeDiff, Nat.reduceAdd, Nat.reduceMul, Nat.reduceSub, reduceCtorEq, Nat.reduceMod, Nat.reduceBEq, Int.reduceBEq, Int.reduceBNe, Int.reduceToNat, enc_node]
     refine vwp_draw (by decide +kernel) ?_
     simp -implicitDefEqProofs only [go_sem, ↓reduceIte, Nat.reduceEqDiff, Nat.reduceLT, Nat.reduceLeDiff, Nat.reduceAdd, Nat.reduceMul, Nat.reduceSub, reduceCtorEq, Nat.reduceMod, Nat.reduceBEq, Int.reduceBEq, Int.reduceBNe, Int.reduceToNat]
     refine q_call _ (by simp -implicitDefEqProofs only [go_sem, ↓reduceIte, Nat.reduceEqDiff]; exact over_spec (m := .node xk xv xl xr xd xs) fl fx _) (by decide) rfl ?_
     simp -implicitDefEqProofs only [go_sem, ↓reduceIte, Nat.reduceEqDiff, Nat.reduceLT, Nat.reduceLeDiff, Nat.reduceAdd, Nat.reduceMul, Nat.reduceSub, reduceCtorEq, Nat.reduceMod, Nat.reduceBEq, Int.reduceBEq, Int.reduceBNe, Int.reduceToNat]
     refine vwp_draw (by decide +kernel) ?_
     simp -implicitDefEqProofs only [go_sem, ↓reduceIte, Nat.reduceEqDiff, Nat.reduceLT, Nat.reduceLeDiff, Nat.reduceAdd, Nat.reduceMul, Nat.reduceSub, reduceCtorEq, Nat.reduceMod, Nat.reduceBEq, Int.reduceBEq, Int.reduceBNe, Int.reduceToNat]
     refine q_call _ (by simp -implicitDefEqProofs only [go_sem, ↓reduceIte, Nat.reduceEqDiff]; exact depth_spec ll _) (by decide) rfl ?_
     simp -implicitDefEqProofs only [go_sem, ↓reduceIte, Nat.reduceEqDiff, Nat.reduceLT, Nat.reduceLeDiff, Nat.reduceAdd, Nat.reduceMul, Nat.reduceSub, reduceCtorEq, Nat.reduceMod, Nat.reduceBEq, Int.reduceBEq, Int.reduceBNe, Int.reduceToNat, hw2, c2]
     refine left_spec fl f1 f2 f3 _ _ ?_
     simp -implicitDefEqProofs only [go_sem, ↓reduceIte, Nat.reduceEqDiff, Nat.reduceLT, Nat.reduceLeDiff, Nat.reduceAdd, Nat.reduceMul, Nat.reduceSub, reduceCtorEq, Nat.reduceMod, Nat.reduceBEq, Int.reduceBEq, Int.reduceBNe, Int.reduceToNat]
     exact ⟨S, fun _ _ h => h, hK⟩


def GrownL (m r : T) : Prop := r.dep = m.dep ∨ (r.dep = m.dep + 1 ∧ ∃ rk rv a b d s, r = .node rk rv a b d s ∧ a.dep = b.dep + 1)

theorem downMore_spec {l : T} (hl : Ok l) (k v : ByteArray) : ∀ (m : T), Ok m → l.dep + 1 < m.dep → l.list.length + m.list.length + 1 ≤ 1000000 →
  ∃ r, Ok r ∧ r.list = l.list ++ (k, v) :: m.list ∧ GrownL m r ∧ ∀ S, PRet Tryz.prog 124 [enc l, .agg [.str k, .str v], enc m] S (enc r)
 | .nil, _, h, _ => by have := (ok_size l hl).2.1; simp only [dep_nil] at h; omega
 | .node mk mv ml mr d s, hm, h, hn => by
  obtain ⟨hml, hmr, hd, hs, hb1, hb2⟩ := hm
  simp only [dep_nil, dep_node, T.list, List.length_append, List.length_cons] at h hn
  obtain ⟨l1, l2, l3⟩ := ok_size l hl
  obtain ⟨m1, m2, m3⟩ := ok_size ml hml
  obtain ⟨r1, r2, r3⟩ := ok_size mr hmr
  have nl := ok_n hl
  have nm := ok_n hml
  have nr := ok_n hmr
  have fl := nl.few (by omega)
  have fm := nm.few (by omega)
  have fr := nr.few (by omega)
  have hw1 : IntKind.i64.wrap (l.dep + 1) = l.dep + 1 := wrap64 (by omega) (by omega)
  have hw2 : IntKind.i64.wrap (mr.dep + 1) = mr.dep + 1 := wrap64 (by omega) (by omega)
  by_cases c1 : ml.dep ≤ l.dep + 1
  ·by_cases c2 : 1 + max l.dep ml.dep ≤ mr.dep + 1
   ·refine ⟨over (over l k v ml) mk mv mr, ok_over (ok_over hl hml (by omega) (by omega)) hmr (by rw [over_dep]; omega) (by rw [over_dep]; omega), by simp [over_list, T.list], ?_, fun S K hK => ?_⟩
    ·by_cases e : 1 + max (1 + max l.dep ml.dep) mr.dep = d
     ·exact .inl e
     ·refine .inr ⟨?_, mk, mv, over l k v ml, mr, _, _, rfl, ?_⟩
      ·rw [over_dep, over_dep]; simp only [dep_node]; omega
      ·rw [over_dep]; omega
    ·have fx := (few_over k v nl nm).few (by omega)
     refine pcalls_of (C := C) (fun _ => false) (fun _ => false) Tryz.func124 rfl rfl (by simp [Tryz.f124]) ?_
     simp -implicitDefEqProofs only [go_sem, ↓reduceIte, Nat.reduceEqDiff, Nat.reduceLT, Nat.reduceLeDiff, Nat.reduceAdd, Nat.reduceMul, Nat.reduceSub, reduceCtorEq, Nat.reduceMod, Nat.reduceBEq, Int.reduceBEq, Int.reduceBNe, Int.reduceToNat, Tryz.f124, enc_node]
     refine depth_spec ml _ _ ?_
     simp -implicitDefEqProofs only [go_sem, ↓reduceIte, Nat.reduceEqDiff, Nat.reduceLT, Nat.reduceLeDiff, Nat.reduceAdd, Nat.reduceMul, Nat.reduceSub, reduceCtorEq, Nat.reduceMod, Nat.reduceBEq, Int.reduceBEq, Int.reduceBNe, Int.reduceToNat]
     refine depth_spec l _ _ ?_
     simp -implicitDefEqProofs only [go_sem, ↓reduceIte, Nat.reduceEqDiff, Nat.reduceLT, Nat.reduceLeDiff, Nat.reduceAdd, Nat.reduceMul, Nat.reduceSub, reduceCtorEq, Nat.reduceMod, Nat.reduceBEq, Int.reduceBEq, Int.reduceBNe, Int.reduceToNat, hw1, c1]
     refine vwp_draw (by decide +kernel) ?_
     simp -implicitDefEqProofs only [go_sem, ↓reduceIte, Nat.reduceEqDiff, Nat.reduceLT, Nat.reduceLeDiff, Nat.reduceAdd, Nat.reduceMul, Nat.reduceSub, reduceCtorEq, Nat.reduceMod, Nat.reduceBEq, Int.reduceBEq, Int.reduceBNe, Int.reduceToNat]
     refine q_call _ (by simp -implicitDefEqProofs only [go_sem, ↓reduceIte, Nat.reduceEqDiff]; exact over_spec fl fm _) (by decide) rfl ?_
     simp -implicitDefEqProofs only [go_sem, ↓reduceIte, Nat.reduceEqDiff, Nat.reduceLT, Nat.reduceLeDiff, Nat.reduceAdd, Nat.reduceMul, Nat.reduceSub, reduceCtorEq, Nat.reduceMod, Nat.reduceBEq, Int.reduceBEq, Int.reduceBNe, Int.reduceToNat, enc_over]
     refine vwp_draw (by decide +kernel) ?_
     simp -implicitDefEqProofs only [go_sem, ↓reduceIte, Nat.reduceEqDiff, Nat.reduceLT, Nat.reduceLeDiff, Nat.reduceAdd, Nat.reduceMul, Nat.reduceSub, reduceCtorEq, Nat.reduceMod, Nat.reduceBEq, Int.reduceBEq, Int.reduceBNe, Int.reduceToNat]
     refine q_call _ (by simp -implicitDefEqProofs only [go_sem, ↓reduceIte, Nat.reduceEqDiff]; exact depth_spec mr _) (by decide) rfl ?_
     simp -implicitDefEqProofs only [go_sem, ↓reduceIte, Nat.reduceEqDiff, Nat.reduceLT, Nat.reduceLeDiff, Nat.reduceAdd, Nat.reduceMul, Nat.reduceSub, reduceCtorEq, Nat.reduceMod, Nat.reduceBEq, Int.reduceBEq, Int.reduceBNe, Int.reduceToNat, hw2, c2]
     refine vwp_draw (by decide +kernel) ?_
     simp -implicitDefEqProofs only [go_sem, ↓reduceIte, Nat.reduceEqDiff, Nat.reduceLT, Nat.reduceLeDiff, Nat.reduceAdd, Nat.reduceMul, Nat.reduceSub, reduceCtorEq, Nat.reduceMod, Nat.reduceBEq, Int.reduceBEq, Int.reduceBNe, Int.reduceToNat]
     refine q_call _ (by simp -implicitDefEqProofs only [go_sem, ↓reduceIte, Nat.reduceEqDiff]; exact over_spec fx fr _) (by decide) rfl ?_
     simp -implicitDefEqProofs only [go_sem, ↓reduceIte, Nat.reduceEqDiff, Nat.reduceLT, Nat.reduceLeDiff, Nat.reduceAdd, Nat.reduceMul, Nat.reduceSub, reduceCtorEq, Nat.reduceMod, Nat.reduceBEq, Int.reduceBEq, Int.reduceBNe, Int.reduceToNat]
     exact ⟨S, fun _ _ h => h, hK⟩
   ·obtain ⟨rk, rv, rl, rr, rd, rs, rfl⟩ : ∃ rk rv rl rr rd rs, ml = .node rk rv rl rr rd rs := by
     cases ml with
     | nil => simp only [dep_nil, dep_node] at *; omega
     | node rk rv rl rr rd rs => exact ⟨_, _, _, _, _, _, rfl⟩
    obtain ⟨hrl, hrr, hrd, hrs, hrb1, hrb2⟩ := hml
    simp only [dep_nil, dep_node, T.list, List.length_append, List.length_cons] at *
    obtain ⟨p1, p2, p3⟩ := ok_size rl hrl
    obtain ⟨q1, q2, q3⟩ := ok_size rr hrr
    have npl := ok_n hrl
    have nqr := ok_n hrr
    have f1 := npl.few (by omega)
    have f2 := nqr.few (by omega)
    have n3 := few_over k v nl npl
    have f3 := n3.few (by omega)
    have n4 := few_over rk rv n3 nqr
    have f4 := n4.few (by omega)
    have f5 := (few_over mk mv nqr nr).few (by omega)
    refine ⟨over (over l k v rl) rk rv (over rr mk mv mr), ok_over (ok_over hl hrl (by omega) (by omega)) (ok_over hrr hmr (by omega) (by omega)) (by rw [over_dep, over_dep]; omega) (by rw [over_dep, over_dep]; omega), by simp [over_list, T.list], ?_, fun S K hK => ?_⟩
    ·refine .inl ?_
     rw [over_dep, over_dep, over_dep]
     simp only [dep_nil, dep_node]
     omega
    ·refine pcalls_of (C := C) (fun _ => false) (fun _ => false) Tryz.func124 rfl rfl (by simp [Tryz.f124]) ?_
     simp -implicitDefEqProofs only [go_sem, ↓reduceIte, Nat.reduceEqDiff, Nat.reduceLT, Nat.reduceLeDiff, Nat.reduceAdd, Nat.reduceMul, Nat.reduceSub, reduceCtorEq, Nat.reduceMod, Nat.reduceBEq, Int.reduceBEq, Int.reduceBNe, Int.reduceToNat, Tryz.f124, enc_node]
     refine depth_spec (.node rk rv rl rr rd rs) _ _ ?_
     simp -implicitDefEqProofs only [go_sem, ↓reduceIte, Nat.reduceEqDiff, Nat.reduceLT, Nat.reduceLeDiff, Nat.reduceAdd, Nat.reduceMul, Nat.reduceSub, reduceCtorEq, Nat.reduceMod, Nat.reduceBEq, Int.reduceBEq, Int.reduceBNe, Int.reduceToNat, dep_nil, dep_node]
     refine depth_spec l _ _ ?_
     simp -implicitDefEqProofs only [go_sem, ↓reduceIte, Nat.reduceEqDiff, Nat.reduceLT, Nat.reduceLeDiff, Nat.reduceAdd, Nat.reduceMul, Nat.reduceSub, reduceCtorEq, Nat.reduceMod, Nat.reduceBEq, Int.reduceBEq, Int.reduceBNe, Int.reduceToNat, hw1, c1]
     refine vwp_draw (by decide +kernel) ?_
     simp -implicitDefEqProofs only [go_sem, ↓reduceIte, Nat.reduceEqDiff, Nat.reduceLT, Nat.reduceLeDiff, Nat.reduceAdd, Nat.reduceMul, Nat.reduceSub, reduceCtorEq, Nat.reduceMod, Nat.reduceBEq, Int.reduceBEq, Int.reduceBNe, Int.reduceToNat]
     refine q_call _ (by simp -implicitDefEqProofs only [go_sem, ↓reduceIte, Nat.reduceEqDiff]; exact over_spec (m := .node rk rv rl rr rd rs) fl fm _) (by decide) rfl ?_
     simp -implicitDefEqProofs only [go_sem, ↓reduceIte, Nat.reduceEqDiff, Nat.reduceLT, Nat.reduceLeDiff, Nat.reduceAdd, Nat.reduceMul, Nat.reduceSub, reduceCtorEq, Nat.reduceMod, Nat.reduceBEq, Int.reduceBEq, Int.reduceBNe, Int.reduceToNat, enc_over, enc_node, dep_nil, dep_node]
     refine vwp_draw (by decide +kernel) ?_
     simp -implicitDefEqProofs only [go_sem, ↓reduceIte, Nat.reduceEqDiff, Nat.reduceLT, Nat.reduceLeDiff, Nat.reduceAdd, Nat.reduceMul, Nat.reduceSub, reduceCtorEq, Nat.reduceMod, Nat.reduceBEq, Int.reduceBEq, Int.reduceBNe, Int.reduceToNat]
     refine q_call _ (by simp -implicitDefEqProofs only [go_sem, ↓reduceIte, Nat.reduceEqDiff]; exact depth_spec mr _) (by decide) rfl ?_
     simp -implicitDefEqProofs only [go_sem, ↓reduceIte, Nat.reduceEqDiff, Nat.reduceLT, Nat.reduceLeDiff, Nat.reduceAdd, Nat.reduceMul, Nat.reduceSub, reduceCtorEq, Nat.reduceMod, Nat.reduceBEq, Int.reduceBEq, Int.reduceBNe, Int.reduceToNat, hw2, c2]
     refine vwp_draw (by decide +kernel) ?_
     simp -implicitDefEqProofs only [go_sem, ↓reduceIte, Nat.reduceEqDiff, Nat.reduceLT, Nat.reduceLeDiff, Nat.reduceAdd, Nat.reduceMul, Nat.reduceSub, reduceCtorEq, Nat.reduceMod, Nat.reduceBEq, Int.reduceBEq, Int.reduceBNe, Int.reduceToNat]
     refine q_call _ (by simp -implicitDefEqProofs only [go_sem, ↓reduceIte, Nat.reduceEqDiff]; exact left_spec fl f1 f2 f3 _) (by decide) rfl ?_
     simp -implicitDefEqProofs only [go_sem, ↓reduceIte, Nat.reduceEqDiff, Nat.reduceLT, Nat.reduceLeDiff, Nat.reduceAdd, Nat.reduceMul, Nat.reduceSub, reduceCtorEq, Nat.reduceMod, Nat.reduceBEq, Int.reduceBEq, Int.reduceBNe, Int.reduceToNat]
     refine q_call _ (by simp -implicitDefEqProofs only [go_sem, ↓reduceIte, Nat.reduceEqDiff]; exact over_spec f4 fr _) (by decide) rfl ?_
     refine q_call _ (by simp -implicitDefEqProofs only [go_sem, ↓reduceIte, Nat.reduceEqDiff]; exact right_spec fr f3 f2 f5 _) (by decide) rfl ?_
     simp -implicitDefEqProofs only [go_sem, ↓reduceIte, Nat.reduceEqDiff, Nat.reduceLT, Nat.reduceLeDiff, Nat.reduceAdd, Nat.reduceMul, Nat.reduceSub, reduceCtorEq, Nat.reduceMod, Nat.reduceBEq, Int.reduceBEq, Int.reduceBNe, Int.reduceToNat]
     exact ⟨S, fun _ _ h => h, hK⟩
  ·obtain ⟨x, hx, hxl, hxg, hxp⟩ := downMore_spec hl k v ml hml (by omega) (by omega)
   obtain ⟨xk, xv, xl, xr, xd, xs, rfl⟩ : ∃ xk xv xl xr xd xs, x = .node xk xv xl xr xd xs := by
    cases x with
    | nil => rcases hxg with h | ⟨h, _⟩ <;> simp only [dep_nil] at h <;> omega
    | node => exact ⟨_, _, _, _, _, _, rfl⟩
   have hxo := hx
   obtain ⟨hxl', hxr', hxd, hxs, hxb1, hxb2⟩ := hx
   have nx := ok_n hxo
   have hlen : (T.node xk xv xl xr xd xs).list.length = ml.list.length + l.list.length + 1 := by rw [hxl]; simp; omega
   rw [hlen] at nx
   simp only [T.list, List.length_append, List.length_cons] at hlen
   have fx := nx.few (by omega)
   have n1 := ok_n hxl'
   have n2 := ok_n hxr'
   have f1 := n1.few (by omega)
   have f2 := n2.few (by omega)
   have f3 := (few_over mk mv n2 nr).few (by omega)
   obtain ⟨_, g1, _⟩ := ok_size xl hxl'
   obtain ⟨_, g2, _⟩ := ok_size xr hxr'
   by_cases c2 : xd ≤ mr.dep + 1
   ·refine ⟨over (.node xk xv xl xr xd xs) mk mv mr, ok_over hxo hmr (by rw [dep_node]; omega) (by rw [dep_node]; rcases hxg with h | ⟨h, _⟩ <;> rw [dep_node] at h <;> omega), by rw [over_list, hxl]; simp [T.list], ?_, fun S K hK => ?_⟩
    ·by_cases e : 1 + max xd mr.dep = d
     ·exact .inl e
     ·refine .inr ⟨?_, mk, mv, .node xk xv xl xr xd xs, mr, _, _, rfl, ?_⟩
      ·rw [over_dep, dep_node, dep_node]; rcases hxg with h | ⟨h, _⟩ <;> rw [dep_node] at h <;> omega
      ·rw [dep_node]; rcases hxg with h | ⟨h, _⟩ <;> rw [dep_node] at h <;> omega
    ·refine pcalls_of (C := C) (fun _ => false) (fun _ => false) Tryz.func124 rfl rfl (by simp [Tryz.f124]) ?_
     simp -implicitDefEqProofs only [go_sem, ↓reduceIte, Nat.reduceEqDiff, Nat.reduceLT, Nat.reduceLeDiff, Nat.reduceAdd, Nat.reduceMul, Nat.reduceSub, reduceCtorEq, Nat.reduceMod, Nat.reduceBEq, Int.reduceBEq, Int.reduceBNe, Int.reduceToNat, Tryz.f124, enc_node]
     refine depth_spec ml _ _ ?_
     simp -implicitDefEqProofs only [go_sem, ↓reduceIte, Nat.reduceEqDiff, Nat.reduceLT, Nat.reduceLeDiff, Nat.reduceAdd, Nat.reduceMul, Nat.reduceSub, reduceCtorEq, Nat.reduceMod, Nat.reduceBEq, Int.reduceBEq, Int.reduceBNe, Int.reduceToNat]
     refine depth_spec l _ _ ?_
     simp -implicitDefEqProofs only [go_sem, ↓reduceIte, Nat.reduceEqDiff, Nat.reduceLT, Nat.reduceLeDiff, Nat.reduceAdd, Nat.reduceMul, Nat.reduceSub, reduceCtorEq, Nat.reduceMod, Nat.reduceBEq, Int.reduceBEq, Int.reduceBNe, Int.reduceToNat, hw1, c1]
     refine vwp_draw (by decide +kernel) ?_
     simp -implicitDefEqProofs only [go_sem, ↓reduceIte, Nat.reduceEqDiff, Nat.reduceLT, Nat.reduceLeDiff, Nat.reduceAdd, Nat.reduceMul, Nat.reduceSub, reduceCtorEq, Nat.reduceMod, Nat.reduceBEq, Int.reduceBEq, Int.reduceBNe, Int.reduceToNat]
     refine q_call _ (by simp -implicitDefEqProofs only [go_sem, ↓reduceIte, Nat.reduceEqDiff]; exact hxp _) (by decide) rfl ?_
     simp -implicitDefEqProofs only [go_sem, ↓reduceIte, Nat.reduceEqDiff, Nat.reduceLT, Nat.reduceLeDiff, Nat.reduceAdd, Nat.reduceMul, Nat.reduceSub, reduceCtorEq, Nat.reduceMod, Nat.reduceBEq, Int.reduceBEq, Int.reduceBNe, Int.reduceToNat, enc_node]
     refine vwp_draw (by decide +kernel) ?_
     simp -implicitDefEqProofs only [go_sem, ↓reduceIte, Nat.reduceEqDiff, Nat.reduceLT, Nat.reduceLeDiff, Nat.reduceAdd, Nat.reduceMul, Nat.reduceSub, reduceCtorEq, Nat.reduceMod, Nat.reduceBEq, Int.reduceBEq, Int.reduceBNe, Int.reduceToNat]
     refine q_call _ (by simp -implicitDefEqProofs only [go_sem, ↓reduceIte, Nat.reduceEqDiff]; exact over_spec (l := .node xk xv xl xr xd xs) fx fr _) (by decide) rfl ?_
     simp -implicitDefEqProofs only [go_sem, ↓reduceIte, Nat.reduceEqDiff, Nat.reduceLT, Nat.reduceLeDiff, Nat.reduceAdd, Nat.reduceMul, Nat.reduceSub, reduceCtorEq, Nat.reduceMod, Nat.reduceBEq, Int.reduceBEq, Int.reduceBNe, Int.reduceToNat]
     refine vwp_draw (by decide +kernel) ?_
     simp -implicitDefEqProofs only [go_sem, ↓reduceIte, Nat.reduceEqDiff, Nat.reduceLT, Nat.reduceLeDiff, Nat.reduceAdd, Nat.reduceMul, Nat.reduceSub, reduceCtorEq, Nat.reduceMod, Nat.reduceBEq, Int.reduceBEq, Int.reduceBNe, Int.reduceToNat]
     refine q_call _ (by simp -implicitDefEqProofs only [go_sem, ↓reduceIte, Nat.reduceEqDiff]; exact depth_spec mr _) (by decide) rfl ?_
     simp -implicitDefEqProofs only [go_sem, ↓reduceIte, Nat.reduceEqDiff, Nat.reduceLT, Nat.reduceLeDiff, Nat.reduceAdd, Nat.reduceMul, Nat.reduceSub, reduceCtorEq, Nat.reduceMod, Nat.reduceBEq, Int.reduceBEq, Int.reduceBNe, Int.reduceToNat, hw2, c2]
     exact ⟨S, fun _ _ h => h, hK⟩
   ·have hg : xd = mr.dep + 2 ∧ xl.dep = xr.dep + 1 := by
     rcases hxg with h | ⟨h, rk, rv, a, b, d', s', he, h2⟩
     ·rw [dep_node] at h; omega
     ·rw [dep_node] at h
      injection he with _ _ e1 e2 _ _
      subst e1
      subst e2
      omega
    refine ⟨over xl xk xv (over xr mk mv mr), ok_over hxl' (ok_over hxr' hmr (by omega) (by omega)) (by rw [over_dep]; omega) (by rw [over_dep]; omega), ?_, ?_, fun S K hK => ?_⟩
    ·simp only [T.list] at hxl ⊢
     simp only [over_list]
     rw [← List.cons_append, ← List.append_assoc, hxl]
     simp
    ·refine .inl ?_
     rw [over_dep, over_dep, dep_node]
     rcases hxg with h | ⟨h, _⟩ <;> rw [dep_node] at h <;> omega
    ·refine pcalls_of (C := C) (fun _ => false) (fun _ => false) Tryz.func124 rfl rfl (by simp [Tryz.f124]) ?_
     simp -implicitDefEqProofs only [go_sem, ↓reduceIte, Nat.reduceEqDiff, Nat.reduceLT, Nat.reduceLeDiff, Nat.reduceAdd, Nat.reduceMul, Nat.reduceSub, reduceCtorEq, Nat.reduceMod, Nat.reduceBEq, Int.reduceBEq, Int.reduceBNe, Int.reduceToNat, Tryz.f124, enc_node]
     refine depth_spec ml _ _ ?_
     simp -implicitDefEqProofs only [go_sem, ↓reduceIte, Nat.reduceEqDiff, Nat.reduceLT, Nat.reduceLeDiff, Nat.reduceAdd, Nat.reduceMul, Nat.reduceSub, reduceCtorEq, Nat.reduceMod, Nat.reduceBEq, Int.reduceBEq, Int.reduceBNe, Int.reduceToNat]
     refine depth_spec l _ _ ?_
     simp -implicitDefEqProofs only [go_sem, ↓reduceIte, Nat.reduceEqDiff, Nat.reduceLT, Nat.reduceLeDiff, Nat.reduceAdd, Nat.reduceMul, Nat.reduceSub, reduceCtorEq, Nat.reduceMod, Nat.reduceBEq, Int.reduceBEq, Int.reduceBNe, Int.reduceToNat, hw1, c1]
     refine vwp_draw (by decide +kernel) ?_
     simp -implicitDefEqProofs only [go_sem, ↓reduceIte, Nat.reduceEqDiff, Nat.reduceLT, Nat.reduceLeDiff, Nat.reduceAdd, Nat.reduceMul, Nat.reduceSub, reduceCtorEq, Nat.reduceMod, Nat.reduceBEq, Int.reduceBEq, Int.reduceBNe, Int.reduceToNat]
     refine q_call _ (by simp -implicitDefEqProofs only [go_sem, ↓reduceIte, Nat.reduceEqDiff]; exact hxp _) (by decide) rfl ?_
     simp -implicitDefEqProofs only [go_sem, ↓reduceIte, Nat.reduceEqDiff, Nat.reduceLT, Nat.reduceLeDiff, Nat.reduceAdd, Nat.reduceMul, Nat.reduceSub, reduceCtorEq, Nat.reduceMod, Nat.reduceBEq, Int.reduceBEq, Int.reduceBNe, Int.reduceToNat, enc_node]
     refine vwp_draw (by decide +kernel) ?_
     simp -implicitDefEqProofs only [go_sem, ↓reduceIte, Nat.reduceEqDiff, Nat.reduceLT, Nat.reduceLeDiff, Nat.reduceAdd, Nat.reduceMul, Nat.reduceSub, reduceCtorEq, Nat.reduceMod, Nat.reduceBEq, Int.reduceBEq, Int.reduceBNe, Int.reduceToNat]
     refine q_call _ (by simp -implicitDefEqProofs only [go_sem, ↓reduceIte, Nat.reduceEqDiff]; exact over_spec (l := .node xk xv xl xr xd xs) fx fr _) (by decide) rfl ?_
     simp -implicitDefEqProofs only [go_sem, ↓reduceIte, Nat.reduceEqDiff, Nat.reduceLT, Nat.reduceLeDiff, Nat.reduceAdd, Nat.reduceMul, Nat.reduceSub, reduceCtorEq, Nat.reduceMod, Nat.reduceBEq, Int.reduceBEq, Int.reduceBNe, Int.reduceToNat]
     refine vwp_draw (by decide +kernel) ?_
     simp -implicitDefEqProofs only [go_sem, ↓reduceIte, Nat.reduceEqDiff, Nat.reduceLT, Nat.reduceLeDiff, Nat.reduceAdd, Nat.reduceMul, Nat.reduceSub, reduceCtorEq, Nat.reduceMod, Nat.reduceBEq, Int.reduceBEq, Int.reduceBNe, Int.reduceToNat]
     refine q_call _ (by simp -implicitDefEqProofs only [go_sem, ↓reduceIte, Nat.reduceEqDiff]; exact depth_spec mr _) (by decide) rfl ?_
     simp -implicitDefEqProofs only [go_sem, ↓reduceIte, Nat.reduceEqDiff, Nat.reduceLT, Nat.reduceLeDiff, Nat.reduceAdd, Nat.reduceMul, Nat.reduceSub, reduceCtorEq, Nat.reduceMod, Nat.reduceBEq, Int.reduceBEq, Int.reduceBNe, Int.reduceToNat, hw2, c2]
     refine right_spec fr f1 f2 f3 _ _ ?_
     simp -implicitDefEqProofs only [go_sem, ↓reduceIte, Nat.reduceEqDiff, Nat.reduceLT, Nat.reduceLeDiff, Nat.reduceAdd, Nat.reduceMul, Nat.reduceSub, reduceCtorEq, Nat.reduceMod, Nat.reduceBEq, Int.reduceBEq, Int.reduceBNe, Int.reduceToNat]
     exact ⟨S, fun _ _ h => h, hK⟩


theorem join_spec {l m : T} (hl : Ok l) (hm : Ok m) (k v : ByteArray) (hn : l.list.length + m.list.length + 1 ≤ 1000000) :
  ∃ r, Ok r ∧ r.list = l.list ++ (k, v) :: m.list ∧ (l.dep ≤ m.dep + 1 → m.dep ≤ l.dep + 1 → r = over l k v m) ∧ ∀ S, PRet Tryz.prog 116 [enc l, .agg [.str k, .str v], enc m] S (enc r) := by
 obtain ⟨l1, l2, l3⟩ := ok_size l hl
 obtain ⟨m1, m2, m3⟩ := ok_size m hm
 have fl := (ok_n hl).few (by omega)
 have fm := (ok_n hm).few (by omega)
 have hw1 : IntKind.i64.wrap (m.dep + 1) = m.dep + 1 := wrap64 (by omega) (by omega)
 have hw2 : IntKind.i64.wrap (l.dep + 1) = l.dep + 1 := wrap64 (by omega) (by omega)
 by_cases c1 : m.dep + 1 < l.dep
 ·obtain ⟨r, h1, h2, _, h4⟩ := downLess_spec hm k v l hl c1 hn
  refine ⟨r, h1, h2, fun h => by omega, fun S K hK => ?_⟩
  refine pcalls_of (C := C) (fun _ => false) (fun _ => false) Tryz.func116 rfl rfl (by simp [Tryz.f116]) ?_
  simp -implicitDefEqProofs only [go_sem, ↓reduceIte, Nat.reduceEqDiff, Nat.reduceLT, Nat.reduceLeDiff, Nat.reduceAdd, Nat.reduceMul, Nat.reduceSub, reduceCtorEq, Nat.reduceMod, Nat.reduceBEq, Int.reduceBEq, Int.reduceBNe, Int.reduceToNat, Tryz.f116]
  refine depth_spec l _ _ ?_
  simp -implicitDefEqProofs only [go_sem, ↓reduceIte, Nat.reduceEqDiff, Nat.reduceLT, Nat.reduceLeDiff, Nat.reduceAdd, Nat.reduceMul, Nat.reduceSub, reduceCtorEq, Nat.reduceMod, Nat.reduceBEq, Int.reduceBEq, Int.reduceBNe, Int.reduceToNat]
  refine depth_spec m _ _ ?_
  simp -implicitDefEqProofs only [go_sem, ↓reduceIte, Nat.reduceEqDiff, Nat.reduceLT, Nat.reduceLeDiff, Nat.reduceAdd, Nat.reduceMul, Nat.reduceSub, reduceCtorEq, Nat.reduceMod, Nat.reduceBEq, Int.reduceBEq, Int.reduceBNe, Int.reduceToNat, hw1, c1]
  refine h4 _ _ ?_
  simp -implicitDefEqProofs only [go_sem, ↓reduceIte, Nat.reduceEqDiff, Nat.reduceLT, Nat.reduceLeDiff, Nat.reduceAdd, Nat.reduceMul, Nat.reduceSub, reduceCtorEq, Nat.reduceMod, Nat.reduceBEq, Int.reduceBEq, Int.reduceBNe, Int.reduceToNat]
  exact ⟨S, fun _ _ h => h, hK⟩
 ·by_cases c2 : l.dep + 1 < m.dep
  ·obtain ⟨r, h1, h2, _, h4⟩ := downMore_spec hl k v m hm c2 hn
   refine ⟨r, h1, h2, fun _ h => by omega, fun S K hK => ?_⟩
   refine pcalls_of (C := C) (fun _ => false) (fun _ => false) Tryz.func116 rfl rfl (by simp [Tryz.f116]) ?_
   simp -implicitDefEqProofs only [go_sem, ↓reduceIte, Nat.reduceEqDiff, Nat.reduceLT, Nat.reduceLeDiff, Nat.reduceAdd, Nat.reduceMul, Nat.reduceSub, reduceCtorEq, Nat.reduceMod, Nat.reduceBEq, Int.reduceBEq, Int.reduceBNe, Int.reduceToNat, Tryz.f116]
   refine depth_spec l _ _ ?_
   simp -implicitDefEqProofs only [go_sem, ↓reduceIte, Nat.reduceEqDiff, Nat.reduceLT, Nat.reduceLeDiff, Nat.reduceAdd, Nat.reduceMul, Nat.reduceSub, reduceCtorEq, Nat.reduceMod, Nat.reduceBEq, Int.reduceBEq, Int.reduceBNe, Int.reduceToNat]
   refine depth_spec m _ _ ?_
   simp -implicitDefEqProofs only [go_sem, ↓reduceIte, Nat.reduceEqDiff, Nat.reduceLT, Nat.reduceLeDiff, Nat.reduceAdd, Nat.reduceMul, Nat.reduceSub, reduceCtorEq, Nat.reduceMod, Nat.reduceBEq, Int.reduceBEq, Int.reduceBNe, Int.reduceToNat, hw1, c1]
   refine depth_spec m _ _ ?_
   simp -implicitDefEqProofs only [go_sem, ↓reduceIte, Nat.reduceEqDiff, Nat.reduceLT, Nat.reduceLeDiff, Nat.reduceAdd, Nat.reduceMul, Nat.reduceSub, reduceCtorEq, Nat.reduceMod, Nat.reduceBEq, Int.reduceBEq, Int.reduceBNe, Int.reduceToNat]
   refine depth_spec l _ _ ?_
   simp -implicitDefEqProofs only [go_sem, ↓reduceIte, Nat.reduceEqDiff, Nat.reduceLT, Nat.reduceLeDiff, Nat.reduceAdd, Nat.reduceMul, Nat.reduceSub, reduceCtorEq, Nat.reduceMod, Nat.reduceBEq, Int.reduceBEq, Int.reduceBNe, Int.reduceToNat, hw2, c2]
   refine h4 _ _ ?_
   simp -implicitDefEqProofs only [go_sem, ↓reduceIte, Nat.reduceEqDiff, Nat.reduceLT, Nat.reduceLeDiff, Nat.reduceAdd, Nat.reduceMul, Nat.reduceSub, reduceCtorEq, Nat.reduceMod, Nat.reduceBEq, Int.reduceBEq, Int.reduceBNe, Int.reduceToNat]
   exact ⟨S, fun _ _ h => h, hK⟩
  ·refine ⟨over l k v m, ok_over hl hm (by omega) (by omega), over_list l m k v, fun _ _ => rfl, fun S K hK => ?_⟩
   refine pcalls_of (C := C) (fun _ => false) (fun _ => false) Tryz.func116 rfl rfl (by simp [Tryz.f116]) ?_
   simp -implicitDefEqProofs only [go_sem, ↓reduceIte, Nat.reduceEqDiff, Nat.reduceLT, Nat.reduceLeDiff, Nat.reduceAdd, Nat.reduceMul, Nat.reduceSub, reduceCtorEq, Nat.reduceMod, Nat.reduceBEq, Int.reduceBEq, Int.reduceBNe, Int.reduceToNat, Tryz.f116]
   refine depth_spec l _ _ ?_
   simp -implicitDefEqProofs only [go_sem, ↓reduceIte, Nat.reduceEqDiff, Nat.reduceLT, Nat.reduceLeDiff, Nat.reduceAdd, Nat.reduceMul, Nat.reduceSub, reduceCtorEq, Nat.reduceMod, Nat.reduceBEq, Int.reduceBEq, Int.reduceBNe, Int.reduceToNat]
   refine depth_spec m _ _ ?_
   simp -implicitDefEqProofs only [go_sem, ↓reduceIte, Nat.reduceEqDiff, Nat.reduceLT, Nat.reduceLeDiff, Nat.reduceAdd, Nat.reduceMul, Nat.reduceSub, reduceCtorEq, Nat.reduceMod, Nat.reduceBEq, Int.reduceBEq, Int.reduceBNe, Int.reduceToNat, hw1, c1]
   refine depth_spec m _ _ ?_
   simp -implicitDefEqProofs only [go_sem, ↓reduceIte, Nat.reduceEqDiff, Nat.reduceLT, Nat.reduceLeDiff, Nat.reduceAdd, Nat.reduceMul, Nat.reduceSub, reduceCtorEq, Nat.reduceMod, Nat.reduceBEq, Int.reduceBEq, Int.reduceBNe, Int.reduceToNat]
   refine depth_spec l _ _ ?_
   simp -implicitDefEqProofs only [go_sem, ↓reduceIte, Nat.reduceEqDiff, Nat.reduceLT, Nat.reduceLeDiff, Nat.reduceAdd, Nat.reduceMul, Nat.reduceSub, reduceCtorEq, Nat.reduceMod, Nat.reduceBEq, Int.reduceBEq, Int.reduceBNe, Int.reduceToNat, hw2, c2]
   refine over_spec fl fm _ _ ?_
   simp -implicitDefEqProofs only [go_sem, ↓reduceIte, Nat.reduceEqDiff, Nat.reduceLT, Nat.reduceLeDiff, Nat.reduceAdd, Nat.reduceMul, Nat.reduceSub, reduceCtorEq, Nat.reduceMod, Nat.reduceBEq, Int.reduceBEq, Int.reduceBNe, Int.reduceToNat]
   exact ⟨S, fun _ _ h => h, hK⟩

theorem last_spec : ∀ (n : T), Ok n → n ≠ .nil → n.list.length ≤ 1000000 →
  ∃ r k v, Ok r ∧ n.list = r.list ++ [(k, v)] ∧ ∀ S, PRet Tryz.prog 125 [enc n] S (.tup [enc r, .agg [.str k, .str v]])
 | .nil, _, h, _ => absurd rfl h
 | .node k v l .nil d s, hn, _, hs => by
  obtain ⟨hl, _, _, _, _, _⟩ := hn
  refine ⟨l, k, v, hl, by simp [T.list], fun S K hK => ?_⟩
  refine pcalls_of (C := C) (fun _ => false) (fun _ => false) Tryz.func125 rfl rfl (by simp [Tryz.f125]) ?_
  simp -implicitDefEqProofs only [go_sem, ↓reduceIte, Nat.reduceEqDiff, Nat.reduceLT, Nat.reduceLeDiff, Nat.reduceAdd, Nat.reduceMul, Nat.reduceSub, reduceCtorEq, Nat.reduceMod, Nat.reduceBEq, Int.reduceBEq, Int.reduceBNe, Int.reduceToNat, Tryz.f125, enc_node, enc_nil]
  refine vwp_draw (by decide +kernel) ?_
  simp -implicitDefEqProofs only [go_sem, ↓reduceIte, Nat.reduceEqDiff, Nat.reduceLT, Nat.reduceLeDiff, Nat.reduceAdd, Nat.reduceMul, Nat.reduceSub, reduceCtorEq, Nat.reduceMod, Nat.reduceBEq, Int.reduceBEq, Int.reduceBNe, Int.reduceToNat]
  exact ⟨S, fun _ _ h => h, hK⟩
 | .node k v l (.node rk rv rl rr rd rs) d s, hn, _, hs => by
  obtain ⟨hl, hr, _, _, _, _⟩ := hn
  simp only [T.list, List.length_append, List.length_cons] at hs
  obtain ⟨q, qk, qv, h1, h2, h3⟩ := last_spec (.node rk rv rl rr rd rs) hr (by simp) (by simp only [T.list, List.length_append, List.length_cons]; omega)
  have hq : q.list.length + 1 = rl.list.length + (rr.list.length + 1) := by
   have := congrArg List.length h2
   simp only [T.list, List.length_append, List.length_cons, List.length_nil] at this
   omega
  obtain ⟨r, j1, j2, _, j4⟩ := join_spec hl h1 k v (by omega)
  refine ⟨r, qk, qv, j1, ?_, fun S K hK => ?_⟩
  ·rw [T.list, h2, j2]; simp
  ·refine pcalls_of (C := C) (fun _ => false) (fun _ => false) Tryz.func125 rfl rfl (by simp [Tryz.f125]) ?_
   simp -implicitDefEqProofs only [go_sem, ↓reduceIte, Nat.reduceEqDiff, Nat.reduceLT, Nat.reduceLeDiff, Nat.reduceAdd, Nat.reduceMul, Nat.reduceSub, reduceCtorEq, Nat.reduceMod, Nat.reduceBEq, Int.reduceBEq, Int.reduceBNe, Int.reduceToNat, Tryz.f125, enc_node]
   refine h3 _ _ ?_
   simp -implicitDefEqProofs only [go_sem, ↓reduceIte, Nat.reduceEqDiff, Nat.reduceLT, Nat.reduceLeDiff, Nat.reduceAdd, Nat.reduceMul, Nat.reduceSub, reduceCtorEq, Nat.reduceMod, Nat.reduceBEq, Int.reduceBEq, Int.reduceBNe, Int.reduceToNat]
   refine vwp_draw (by decide +kernel) ?_
   simp -implicitDefEqProofs only [go_sem, ↓reduceIte, Nat.reduceEqDiff, Nat.reduceLT, Nat.reduceLeDiff, Nat.reduceAdd, Nat.reduceMul, Nat.reduceSub, reduceCtorEq, Nat.reduceMod, Nat.reduceBEq, Int.reduceBEq, Int.reduceBNe, Int.reduceToNat]
   refine q_call _ (by simp -implicitDefEqProofs only [go_sem, ↓reduceIte, Nat.reduceEqDiff]; exact j4 _) (by decide) rfl ?_
   simp -implicitDefEqProofs only [go_sem, ↓reduceIte, Nat.reduceEqDiff, Nat.reduceLT, Nat.reduceLeDiff, Nat.reduceAdd, Nat.reduceMul, Nat.reduceSub, reduceCtorEq, Nat.reduceMod, Nat.reduceBEq, Int.reduceBEq, Int.reduceBNe, Int.reduceToNat]
   exact ⟨S, fun _ _ h => h, hK⟩

theorem glue_spec {l m : T} (hl : Ok l) (hm : Ok m) (hn : l.list.length + m.list.length ≤ 1000000) :
  ∃ r, Ok r ∧ r.list = l.list ++ m.list ∧ ∀ S, PRet Tryz.prog 117 [enc l, enc m] S (enc r) := by
 cases l with
 | nil =>
  refine ⟨m, hm, by simp [T.list], fun S K hK => ?_⟩
  refine pcalls_of (C := C) (fun _ => false) (fun _ => false) Tryz.func117 rfl rfl (by simp [Tryz.f117]) ?_
  simp -implicitDefEqProofs only [go_sem, ↓reduceIte, Nat.reduceEqDiff, Nat.reduceLT, Nat.reduceLeDiff, Nat.reduceAdd, Nat.reduceMul, Nat.reduceSub, reduceCtorEq, Nat.reduceMod, Nat.reduceBEq, Int.reduceBEq, Int.reduceBNe, Int.reduceToNat, Tryz.f117, enc_nil]
  exact ⟨S, fun _ _ h => h, hK⟩
 | node k v a b d s =>
  obtain ⟨q, qk, qv, h1, h2, h3⟩ := last_spec _ hl (by simp) (by omega)
  have hq : (T.node k v a b d s).list.length = q.list.length + 1 := by rw [h2]; simp
  obtain ⟨r, j1, j2, _, j4⟩ := join_spec h1 hm qk qv (by omega)
  refine ⟨r, j1, by rw [h2, j2]; simp, fun S K hK => ?_⟩
  refine pcalls_of (C := C) (fun _ => false) (fun _ => false) Tryz.func117 rfl rfl (by simp [Tryz.f117]) ?_
  simp -implicitDefEqProofs only [go_sem, ↓reduceIte, Nat.reduceEqDiff, Nat.reduceLT, Nat.reduceLeDiff, Nat.reduceAdd, Nat.reduceMul, Nat.reduceSub, reduceCtorEq, Nat.reduceMod, Nat.reduceBEq, Int.reduceBEq, Int.reduceBNe, Int.reduceToNat, Tryz.f117, enc_node]
  refine h3 _ _ ?_
  simp -implicitDefEqProofs only [go_sem, ↓reduceIte, Nat.reduceEqDiff, Nat.reduceLT, Nat.reduceLeDiff, Nat.reduceAdd, Nat.reduceMul, Nat.reduceSub, reduceCtorEq, Nat.reduceMod, Nat.reduceBEq, Int.reduceBEq, Int.reduceBNe, Int.reduceToNat]
  refine j4 _ _ ?_
  simp -implicitDefEqProofs only [go_sem, ↓reduceIte, Nat.reduceEqDiff, Nat.reduceLT, Nat.reduceLeDiff, Nat.reduceAdd, Nat.reduceMul, Nat.reduceSub, reduceCtorEq, Nat.reduceMod, Nat.reduceBEq, Int.reduceBEq, Int.reduceBNe, Int.reduceToNat]
  exact ⟨S, fun _ _ h => h, hK⟩

end Go.Proofs.YtdioedabjaaboaaGreat.V
