/- Trees: a pair between a deep side and another one. -/
import Derived.Test.YtmedhhjbknnfkaaTB
set_option linter.unusedVariables false
set_option linter.unusedSimpArgs false
namespace Go.Proofs.Ytmedhhjbknnfkaa.V
open Go Go.VL

def Grown (l r : T) : Prop := r.dep = l.dep ∨ (r.dep = l.dep + 1 ∧ ∃ rk rv a b d s, r = .node rk rv a b d s ∧ b.dep = a.dep + 1)

theorem downLess_spec {m : T} (hm : Ok m) (k v : ByteArray) : ∀ (l : T), Ok l → m.dep + 1 < l.dep → l.list.length + m.list.length + 1 ≤ 1000000 →
    ∃ r, Ok r ∧ r.list = l.list ++ (k, v) :: m.list ∧ Grown l r ∧ ∀ S, PRet Try.prog 74 [enc l, .agg [.str k, .str v], enc m] S (enc r)
  | .nil, _, h, _ => by have := (ok_size m hm).2.1; simp only [dep_nil, dep_node] at h; omega
  | .node lk lv ll lr d s, hl, h, hn => by
    obtain ⟨hll, hlr, hd, hs, hb1, hb2⟩ := hl
    simp only [dep_nil, dep_node, T.list, List.length_append, List.length_cons] at h hn
    obtain ⟨m1, m2, m3⟩ := ok_size m hm
    obtain ⟨l1, l2, l3⟩ := ok_size ll hll
    obtain ⟨r1, r2, r3⟩ := ok_size lr hlr
    have nm := ok_n hm
    have nl := ok_n hll
    have nr := ok_n hlr
    have fm := nm.few (by omega)
    have fl := nl.few (by omega)
    have fr := nr.few (by omega)
    have hw1 : IntKind.i64.wrap (m.dep + 1) = m.dep + 1 := wrap64 (by omega) (by omega)
    have hw2 : IntKind.i64.wrap (ll.dep + 1) = ll.dep + 1 := wrap64 (by omega) (by omega)
    by_cases c1 : lr.dep ≤ m.dep + 1
    · by_cases c2 : 1 + max lr.dep m.dep ≤ ll.dep + 1
      · refine ⟨over ll lk lv (over lr k v m), ok_over hll (ok_over hlr hm (by omega) (by omega)) (by rw [over_dep]; omega) (by rw [over_dep]; omega), by simp [over_list, T.list], ?_, fun S K hK => ?_⟩
        · by_cases e : 1 + max ll.dep (1 + max lr.dep m.dep) = d
          · exact .inl e
          · refine .inr ⟨?_, lk, lv, ll, over lr k v m, _, _, rfl, ?_⟩
            · rw [over_dep, over_dep]; simp only [dep_nil, dep_node]; omega
            · rw [over_dep]; omega
        · have fx := (few_over k v nr nm).few (by omega)
          refine pcalls_of (C := C) (fun _ => false) (fun _ => false) Try.func74 rfl rfl (by simp [Try.f74]) ?_
          simp -implicitDefEqProofs only [go_sem, ↓reduceIte, Nat.reduceEqDiff, Nat.reduceLT, Nat.reduceLeDiff, Nat.reduceAdd, Nat.reduceMul, Nat.reduceSub, reduceCtorEq, Nat.reduceMod, Nat.reduceBEq, Int.reduceBEq, Int.reduceBNe, Int.reduceToNat, Try.f74, enc_node]
          refine depth_spec lr _ _ ?_
          simp -implicitDefEqProofs only [go_sem, ↓reduceIte, Nat.reduceEqDiff, Nat.reduceLT, Nat.reduceLeDiff, Nat.reduceAdd, Nat.reduceMul, Nat.reduceSub, reduceCtorEq, Nat.reduceMod, Nat.reduceBEq, Int.reduceBEq, Int.reduceBNe, Int.reduceToNat]
          refine depth_spec m _ _ ?_
          simp -implicitDefEqProofs only [go_sem, ↓reduceIte, Nat.reduceEqDiff, Nat.reduceLT, Nat.reduceLeDiff, Nat.reduceAdd, Nat.reduceMul, Nat.reduceSub, reduceCtorEq, Nat.reduceMod, Nat.reduceBEq, Int.reduceBEq, Int.reduceBNe, Int.reduceToNat, hw1, c1]
          refine vwp_draw (by decide +kernel) ?_
          simp -implicitDefEqProofs only [go_sem, ↓reduceIte, Nat.reduceEqDiff, Nat.reduceLT, Nat.reduceLeDiff, Nat.reduceAdd, Nat.reduceMul, Nat.reduceSub, reduceCtorEq, Nat.reduceMod, Nat.reduceBEq, Int.reduceBEq, Int.reduceBNe, Int.reduceToNat]
          refine q_call _ (by simp -implicitDefEqProofs only [go_sem, ↓reduceIte, Nat.reduceEqDiff, Nat.reduceLT, Nat.reduceLeDiff, Nat.reduceAdd, Nat.reduceMul, Nat.reduceSub, reduceCtorEq, Nat.reduceMod, Nat.reduceBEq, Int.reduceBEq, Int.reduceBNe, Int.reduceToNat]; exact over_spec fr fm _) (by decide) rfl ?_
          simp -implicitDefEqProofs only [go_sem, ↓reduceIte, Nat.reduceEqDiff, Nat.reduceLT, Nat.reduceLeDiff, Nat.reduceAdd, Nat.reduceMul, Nat.reduceSub, reduceCtorEq, Nat.reduceMod, Nat.reduceBEq, Int.reduceBEq, Int.reduceBNe, Int.reduceToNat, enc_over]
          refine vwp_draw (by decide +kernel) ?_
          simp -implicitDefEqProofs only [go_sem, ↓reduceIte, Nat.reduceEqDiff, Nat.reduceLT, Nat.reduceLeDiff, Nat.reduceAdd, Nat.reduceMul, Nat.reduceSub, reduceCtorEq, Nat.reduceMod, Nat.reduceBEq, Int.reduceBEq, Int.reduceBNe, Int.reduceToNat]
          refine q_call _ (by simp -implicitDefEqProofs only [go_sem, ↓reduceIte, Nat.reduceEqDiff, Nat.reduceLT, Nat.reduceLeDiff, Nat.reduceAdd, Nat.reduceMul, Nat.reduceSub, reduceCtorEq, Nat.reduceMod, Nat.reduceBEq, Int.reduceBEq, Int.reduceBNe, Int.reduceToNat]; exact depth_spec ll _) (by decide) rfl ?_
          simp -implicitDefEqProofs only [go_sem, ↓reduceIte, Nat.reduceEqDiff, Nat.reduceLT, Nat.reduceLeDiff, Nat.reduceAdd, Nat.reduceMul, Nat.reduceSub, reduceCtorEq, Nat.reduceMod, Nat.reduceBEq, Int.reduceBEq, Int.reduceBNe, Int.reduceToNat, hw2, c2]
          refine vwp_draw (by decide +kernel) ?_
          simp -implicitDefEqProofs only [go_sem, ↓reduceIte, Nat.reduceEqDiff, Nat.reduceLT, Nat.reduceLeDiff, Nat.reduceAdd, Nat.reduceMul, Nat.reduceSub, reduceCtorEq, Nat.reduceMod, Nat.reduceBEq, Int.reduceBEq, Int.reduceBNe, Int.reduceToNat]
          refine q_call _ (by simp -implicitDefEqProofs only [go_sem, ↓reduceIte, Nat.reduceEqDiff, Nat.reduceLT, Nat.reduceLeDiff, Nat.reduceAdd, Nat.reduceMul, Nat.reduceSub, reduceCtorEq, Nat.reduceMod, Nat.reduceBEq, Int.reduceBEq, Int.reduceBNe, Int.reduceToNat]; exact over_spec fl fx _) (by decide) rfl ?_
          simp -implicitDefEqProofs only [go_sem, ↓reduceIte, Nat.reduceEqDiff, Nat.reduceLT, Nat.reduceLeDiff, Nat.reduceAdd, Nat.reduceMul, Nat.reduceSub, reduceCtorEq, Nat.reduceMod, Nat.reduceBEq, Int.reduceBEq, Int.reduceBNe, Int.reduceToNat]
          exact ⟨S, fun _ _ h => h, hK⟩
      · obtain ⟨rk, rv, rl, rr, rd, rs, rfl⟩ : ∃ rk rv rl rr rd rs, lr = .node rk rv rl rr rd rs := by
          cases lr with
          | nil => simp only [dep_nil, dep_node] at *; omega
          | node rk rv rl rr rd rs => exact ⟨_, _, _, _, _, _, rfl⟩
        obtain ⟨hrl, hrr, hrd, hrs, hrb1, hrb2⟩ := hlr
        simp only [dep_nil, dep_node, T.list, List.length_append, List.length_cons] at *
        obtain ⟨p1, p2, p3⟩ := ok_size rl hrl
        obtain ⟨q1, q2, q3⟩ := ok_size rr hrr
        have npl := ok_n hrl
        have nqr := ok_n hrr
        have f1 := npl.few (by omega)
        have f2 := nqr.few (by omega)
        have n3 := few_over k v nqr nm
        have f3 := n3.few (by omega)
        have n4 := few_over rk rv npl n3
        have f4 := n4.few (by omega)
        have f5 := (few_over lk lv nl npl).few (by omega)
        refine ⟨over (over ll lk lv rl) rk rv (over rr k v m), ok_over (ok_over hll hrl (by omega) (by omega)) (ok_over hrr hm (by omega) (by omega)) (by rw [over_dep, over_dep]; omega) (by rw [over_dep, over_dep]; omega), by simp [over_list, T.list], ?_, fun S K hK => ?_⟩
        · refine .inl ?_
          rw [over_dep, over_dep, over_dep]
          simp only [dep_nil, dep_node]
          omega
        · refine pcalls_of (C := C) (fun _ => false) (fun _ => false) Try.func74 rfl rfl (by simp [Try.f74]) ?_
          simp -implicitDefEqProofs only [go_sem, ↓reduceIte, Nat.reduceEqDiff, Nat.reduceLT, Nat.reduceLeDiff, Nat.reduceAdd, Nat.reduceMul, Nat.reduceSub, reduceCtorEq, Nat.reduceMod, Nat.reduceBEq, Int.reduceBEq, Int.reduceBNe, Int.reduceToNat, Try.f74, enc_node]
          refine depth_spec (.node rk rv rl rr rd rs) _ _ ?_
          simp -implicitDefEqProofs only [go_sem, ↓reduceIte, Nat.reduceEqDiff, Nat.reduceLT, Nat.reduceLeDiff, Nat.reduceAdd, Nat.reduceMul, Nat.reduceSub, reduceCtorEq, Nat.reduceMod, Nat.reduceBEq, Int.reduceBEq, Int.reduceBNe, Int.reduceToNat, dep_nil, dep_node]
          refine depth_spec m _ _ ?_
          simp -implicitDefEqProofs only [go_sem, ↓reduceIte, Nat.reduceEqDiff, Nat.reduceLT, Nat.reduceLeDiff, Nat.reduceAdd, Nat.reduceMul, Nat.reduceSub, reduceCtorEq, Nat.reduceMod, Nat.reduceBEq, Int.reduceBEq, Int.reduceBNe, Int.reduceToNat, hw1, c1]
          refine vwp_draw (by decide +kernel) ?_
          simp -implicitDefEqProofs only [go_sem, ↓reduceIte, Nat.reduceEqDiff, Nat.reduceLT, Nat.reduceLeDiff, Nat.reduceAdd, Nat.reduceMul, Nat.reduceSub, reduceCtorEq, Nat.reduceMod, Nat.reduceBEq, Int.reduceBEq, Int.reduceBNe, Int.reduceToNat]
          refine q_call _ (by simp -implicitDefEqProofs only [go_sem, ↓reduceIte, Nat.reduceEqDiff, Nat.reduceLT, Nat.reduceLeDiff, Nat.reduceAdd, Nat.reduceMul, Nat.reduceSub, reduceCtorEq, Nat.reduceMod, Nat.reduceBEq, Int.reduceBEq, Int.reduceBNe, Int.reduceToNat]; exact over_spec (l := .node rk rv rl rr rd rs) fr fm _) (by decide) rfl ?_
          simp -implicitDefEqProofs only [go_sem, ↓reduceIte, Nat.reduceEqDiff, Nat.reduceLT, Nat.reduceLeDiff, Nat.reduceAdd, Nat.reduceMul, Nat.reduceSub, reduceCtorEq, Nat.reduceMod, Nat.reduceBEq, Int.reduceBEq, Int.reduceBNe, Int.reduceToNat, enc_over, enc_node, dep_nil, dep_node]
          refine vwp_draw (by decide +kernel) ?_
          simp -implicitDefEqProofs only [go_sem, ↓reduceIte, Nat.reduceEqDiff, Nat.reduceLT, Nat.reduceLeDiff, Nat.reduceAdd, Nat.reduceMul, Nat.reduceSub, reduceCtorEq, Nat.reduceMod, Nat.reduceBEq, Int.reduceBEq, Int.reduceBNe, Int.reduceToNat]
          refine q_call _ (by simp -implicitDefEqProofs only [go_sem, ↓reduceIte, Nat.reduceEqDiff, Nat.reduceLT, Nat.reduceLeDiff, Nat.reduceAdd, Nat.reduceMul, Nat.reduceSub, reduceCtorEq, Nat.reduceMod, Nat.reduceBEq, Int.reduceBEq, Int.reduceBNe, Int.reduceToNat]; exact depth_spec ll _) (by decide) rfl ?_
          simp -implicitDefEqProofs only [go_sem, ↓reduceIte, Nat.reduceEqDiff, Nat.reduceLT, Nat.reduceLeDiff, Nat.reduceAdd, Nat.reduceMul, Nat.reduceSub, reduceCtorEq, Nat.reduceMod, Nat.reduceBEq, Int.reduceBEq, Int.reduceBNe, Int.reduceToNat, hw2, c2]
          refine vwp_draw (by decide +kernel) ?_
          simp -implicitDefEqProofs only [go_sem, ↓reduceIte, Nat.reduceEqDiff, Nat.reduceLT, Nat.reduceLeDiff, Nat.reduceAdd, Nat.reduceMul, Nat.reduceSub, reduceCtorEq, Nat.reduceMod, Nat.reduceBEq, Int.reduceBEq, Int.reduceBNe, Int.reduceToNat]
          refine q_call _ (by simp -implicitDefEqProofs only [go_sem, ↓reduceIte, Nat.reduceEqDiff, Nat.reduceLT, Nat.reduceLeDiff, Nat.reduceAdd, Nat.reduceMul, Nat.reduceSub, reduceCtorEq, Nat.reduceMod, Nat.reduceBEq, Int.reduceBEq, Int.reduceBNe, Int.reduceToNat]; exact right_spec fm f1 f2 f3 _) (by decide) rfl ?_
          refine q_call _ (by simp -implicitDefEqProofs only [go_sem, ↓reduceIte, Nat.reduceEqDiff, Nat.reduceLT, Nat.reduceLeDiff, Nat.reduceAdd, Nat.reduceMul, Nat.reduceSub, reduceCtorEq, Nat.reduceMod, Nat.reduceBEq, Int.reduceBEq, Int.reduceBNe, Int.reduceToNat]; exact over_spec fl f4 _) (by decide) rfl ?_
          refine q_call _ (by simp -implicitDefEqProofs only [go_sem, ↓reduceIte, Nat.reduceEqDiff, Nat.reduceLT, Nat.reduceLeDiff, Nat.reduceAdd, Nat.reduceMul, Nat.reduceSub, reduceCtorEq, Nat.reduceMod, Nat.reduceBEq, Int.reduceBEq, Int.reduceBNe, Int.reduceToNat]; exact left_spec fl f1 f3 f5 _) (by decide) rfl ?_
          simp -implicitDefEqProofs only [go_sem, ↓reduceIte, Nat.reduceEqDiff, Nat.reduceLT, Nat.reduceLeDiff, Nat.reduceAdd, Nat.reduceMul, Nat.reduceSub, reduceCtorEq, Nat.reduceMod, Nat.reduceBEq, Int.reduceBEq, Int.reduceBNe, Int.reduceToNat]
          exact ⟨S, fun _ _ h => h, hK⟩
    · obtain ⟨x, hx, hxl, hxg, hxp⟩ := downLess_spec hm k v lr hlr (by omega) (by omega)
      obtain ⟨xk, xv, xl, xr, xd, xs, rfl⟩ : ∃ xk xv xl xr xd xs, x = .node xk xv xl xr xd xs := by
        cases x with
        | nil => rcases hxg with h | ⟨h, _⟩ <;> simp only [dep_nil] at h <;> omega
        | node => exact ⟨_, _, _, _, _, _, rfl⟩
      have hxo := hx
      obtain ⟨hxl', hxr', hxd, hxs, hxb1, hxb2⟩ := hx
      have nx := ok_n hxo
      have hlen : (T.node xk xv xl xr xd xs).list.length = lr.list.length + m.list.length + 1 := by rw [hxl]; simp; omega
      rw [hlen] at nx
      simp only [T.list, List.length_append, List.length_cons] at hlen
      have fx := nx.few (by omega)
      have n1 := ok_n hxl'
      have n2 := ok_n hxr'
      have f1 := n1.few (by omega)
      have f2 := n2.few (by omega)
      have f3 := (few_over lk lv nl n1).few (by omega)
      obtain ⟨_, g1, _⟩ := ok_size xl hxl'
      obtain ⟨_, g2, _⟩ := ok_size xr hxr'
      by_cases c2 : xd ≤ ll.dep + 1
      · refine ⟨over ll lk lv (.node xk xv xl xr xd xs), ok_over hll hxo (by rw [dep_node]; rcases hxg with h | ⟨h, _⟩ <;> rw [dep_node] at h <;> omega) (by rw [dep_node]; omega), by rw [over_list, hxl]; simp [T.list], ?_, fun S K hK => ?_⟩
        · by_cases e : 1 + max ll.dep xd = d
          · exact .inl e
          · refine .inr ⟨?_, lk, lv, ll, .node xk xv xl xr xd xs, _, _, rfl, ?_⟩
            · rw [over_dep, dep_node, dep_node]; rcases hxg with h | ⟨h, _⟩ <;> rw [dep_node] at h <;> omega
            · rw [dep_node]; rcases hxg with h | ⟨h, _⟩ <;> rw [dep_node] at h <;> omega
        · refine pcalls_of (C := C) (fun _ => false) (fun _ => false) Try.func74 rfl rfl (by simp [Try.f74]) ?_
          simp -implicitDefEqProofs only [go_sem, ↓reduceIte, Nat.reduceEqDiff, Nat.reduceLT, Nat.reduceLeDiff, Nat.reduceAdd, Nat.reduceMul, Nat.reduceSub, reduceCtorEq, Nat.reduceMod, Nat.reduceBEq, Int.reduceBEq, Int.reduceBNe, Int.reduceToNat, Try.f74, enc_node]
          refine depth_spec lr _ _ ?_
          simp -implicitDefEqProofs only [go_sem, ↓reduceIte, Nat.reduceEqDiff, Nat.reduceLT, Nat.reduceLeDiff, Nat.reduceAdd, Nat.reduceMul, Nat.reduceSub, reduceCtorEq, Nat.reduceMod, Nat.reduceBEq, Int.reduceBEq, Int.reduceBNe, Int.reduceToNat]
          refine depth_spec m _ _ ?_
          simp -implicitDefEqProofs only [go_sem, ↓reduceIte, Nat.reduceEqDiff, Nat.reduceLT, Nat.reduceLeDiff, Nat.reduceAdd, Nat.reduceMul, Nat.reduceSub, reduceCtorEq, Nat.reduceMod, Nat.reduceBEq, Int.reduceBEq, Int.reduceBNe, Int.reduceToNat, hw1, c1]
          refine vwp_draw (by decide +kernel) ?_
          simp -implicitDefEqProofs only [go_sem, ↓reduceIte, Nat.reduceEqDiff, Nat.reduceLT, Nat.reduceLeDiff, Nat.reduceAdd, Nat.reduceMul, Nat.reduceSub, reduceCtorEq, Nat.reduceMod, Nat.reduceBEq, Int.reduceBEq, Int.reduceBNe, Int.reduceToNat]
          refine q_call _ (by simp -implicitDefEqProofs only [go_sem, ↓reduceIte, Nat.reduceEqDiff, Nat.reduceLT, Nat.reduceLeDiff, Nat.reduceAdd, Nat.reduceMul, Nat.reduceSub, reduceCtorEq, Nat.reduceMod, Nat.reduceBEq, Int.reduceBEq, Int.reduceBNe, Int.reduceToNat]; exact hxp _) (by decide) rfl ?_
          simp -implicitDefEqProofs only [go_sem, ↓reduceIte, Nat.reduceEqDiff, Nat.reduceLT, Nat.reduceLeDiff, Nat.reduceAdd, Nat.reduceMul, Nat.reduceSub, reduceCtorEq, Nat.reduceMod, Nat.reduceBEq, Int.reduceBEq, Int.reduceBNe, Int.reduceToNat, enc_node]
          refine vwp_draw (by decide +kernel) ?_
          simp -implicitDefEqProofs only [go_sem, ↓reduceIte, Nat.reduceEqDiff, Nat.reduceLT, Nat.reduceLeDiff, Nat.reduceAdd, Nat.reduceMul, Nat.reduceSub, reduceCtorEq, Nat.reduceMod, Nat.reduceBEq, Int.reduceBEq, Int.reduceBNe, Int.reduceToNat]
          refine q_call _ (by simp -implicitDefEqProofs only [go_sem, ↓reduceIte, Nat.reduceEqDiff, Nat.reduceLT, Nat.reduceLeDiff, Nat.reduceAdd, Nat.reduceMul, Nat.reduceSub, reduceCtorEq, Nat.reduceMod, Nat.reduceBEq, Int.reduceBEq, Int.reduceBNe, Int.reduceToNat]; exact over_spec (m := .node xk xv xl xr xd xs) fl fx _) (by decide) rfl ?_
          simp -implicitDefEqProofs only [go_sem, ↓reduceIte, Nat.reduceEqDiff, Nat.reduceLT, Nat.reduceLeDiff, Nat.reduceAdd, Nat.reduceMul, Nat.reduceSub, reduceCtorEq, Nat.reduceMod, Nat.reduceBEq, Int.reduceBEq, Int.reduceBNe, Int.reduceToNat]
          refine vwp_draw (by decide +kernel) ?_
          simp -implicitDefEqProofs only [go_sem, ↓reduceIte, Nat.reduceEqDiff, Nat.reduceLT, Nat.reduceLeDiff, Nat.reduceAdd, Nat.reduceMul, Nat.reduceSub, reduceCtorEq, Nat.reduceMod, Nat.reduceBEq, Int.reduceBEq, Int.reduceBNe, Int.reduceToNat]
          refine q_call _ (by simp -implicitDefEqProofs only [go_sem, ↓reduceIte, Nat.reduceEqDiff, Nat.reduceLT, Nat.reduceLeDiff, Nat.reduceAdd, Nat.reduceMul, Nat.reduceSub, reduceCtorEq, Nat.reduceMod, Nat.reduceBEq, Int.reduceBEq, Int.reduceBNe, Int.reduceToNat]; exact depth_spec ll _) (by decide) rfl ?_
          simp -implicitDefEqProofs only [go_sem, ↓reduceIte, Nat.reduceEqDiff, Nat.reduceLT, Nat.reduceLeDiff, Nat.reduceAdd, Nat.reduceMul, Nat.reduceSub, reduceCtorEq, Nat.reduceMod, Nat.reduceBEq, Int.reduceBEq, Int.reduceBNe, Int.reduceToNat, hw2, c2]
          exact ⟨S, fun _ _ h => h, hK⟩
      · have hg : xd = ll.dep + 2 ∧ xr.dep = xl.dep + 1 := by
          rcases hxg with h | ⟨h, rk, rv, a, b, d', s', he, h2⟩
          · rw [dep_node] at h; omega
          · rw [dep_node] at h
            injection he with _ _ e1 e2 _ _
            subst e1
            subst e2
            omega
        refine ⟨over (over ll lk lv xl) xk xv xr, ok_over (ok_over hll hxl' (by omega) (by omega)) hxr' (by rw [over_dep]; omega) (by rw [over_dep]; omega), ?_, ?_, fun S K hK => ?_⟩
        · simp only [T.list] at hxl ⊢
          simp only [over_list, List.append_assoc, List.cons_append, hxl]
        · refine .inl ?_
          rw [over_dep, over_dep, dep_node]
          rcases hxg with h | ⟨h, _⟩ <;> rw [dep_node] at h <;> omega
        · refine pcalls_of (C := C) (fun _ => false) (fun _ => false) Try.func74 rfl rfl (by simp [Try.f74]) ?_
          simp -implicitDefEqProofs only [go_sem, ↓reduceIte, Nat.reduceEqDiff, Nat.reduceLT, Nat.reduceLeDiff, Nat.reduceAdd, Nat.reduceMul, Nat.reduceSub, reduceCtorEq, Nat.reduceMod, Nat.reduceBEq, Int.reduceBEq, Int.reduceBNe, Int.reduceToNat, Try.f74, enc_node]
          refine depth_spec lr _ _ ?_
          simp -implicitDefEqProofs only [go_sem, ↓reduceIte, Nat.reduceEqDiff, Nat.reduceLT, Nat.reduceLeDiff, Nat.reduceAdd, Nat.reduceMul, Nat.reduceSub, reduceCtorEq, Nat.reduceMod, Nat.reduceBEq, Int.reduceBEq, Int.reduceBNe, Int.reduceToNat]
          refine depth_spec m _ _ ?_
          simp -implicitDefEqProofs only [go_sem, ↓reduceIte, Nat.reduceEqDiff, Nat.reduceLT, Nat.reduceLeDiff, Nat.reduceAdd, Nat.reduceMul, Nat.reduceSub, reduceCtorEq, Nat.reduceMod, Nat.reduceBEq, Int.reduceBEq, Int.reduceBNe, Int.reduceToNat, hw1, c1]
          refine vwp_draw (by decide +kernel) ?_
          simp -implicitDefEqProofs only [go_sem, ↓reduceIte, Nat.reduceEqDiff, Nat.reduceLT, Nat.reduceLeDiff, Nat.reduceAdd, Nat.reduceMul, Nat.reduceSub, reduceCtorEq, Nat.reduceMod, Nat.reduceBEq, Int.reduceBEq, Int.reduceBNe, Int.reduceToNat]
          refine q_call _ (by simp -implicitDefEqProofs only [go_sem, ↓reduceIte, Nat.reduceEqDiff, Nat.reduceLT, Nat.reduceLeDiff, Nat.reduceAdd, Nat.reduceMul, Nat.reduceSub, reduceCtorEq, Nat.reduceMod, Nat.reduceBEq, Int.reduceBEq, Int.reduceBNe, Int.reduceToNat]; exact hxp _) (by decide) rfl ?_
          simp -implicitDefEqProofs only [go_sem, ↓reduceIte, Nat.reduceEqDiff, Nat.reduceLT, Nat.reduceLeDiff, Nat.reduceAdd, Nat.reduceMul, Nat.reduceSub, reduceCtorEq, Nat.reduceMod, Nat.reduceBEq, Int.reduceBEq, Int.reduceBNe, Int.reduceToNat, enc_node]
          refine vwp_draw (by decide +kernel) ?_
          simp -implicitDefEqProofs only [go_sem, ↓reduceIte, Nat.reduceEqDiff, Nat.reduceLT, Nat.reduceLeDiff, Nat.reduceAdd, Nat.reduceMul, Nat.reduceSub, reduceCtorEq, Nat.reduceMod, Nat.reduceBEq, Int.reduceBEq, Int.reduceBNe, Int.reduceToNat]
          refine q_call _ (by simp -implicitDefEqProofs only [go_sem, ↓reduceIte, Nat.reduceEqDiff, Nat.reduceLT, Nat.reduceLeDiff, Nat.reduceAdd, Nat.reduceMul, Nat.reduceSub, reduceCtorEq, Nat.reduceMod, Nat.reduceBEq, Int.reduceBEq, Int.reduceBNe, Int.reduceToNat]; exact over_spec (m := .node xk xv xl xr xd xs) fl fx _) (by decide) rfl ?_
          simp -implicitDefEqProofs only [go_sem, ↓reduceIte, Nat.reduceEqDiff, Nat.reduceLT, Nat.reduceLeDiff, Nat.reduceAdd, Nat.reduceMul, Nat.reduceSub, reduceCtorEq, Nat.reduceMod, Nat.reduceBEq, Int.reduceBEq, Int.reduceBNe, Int.reduceToNat]
          refine vwp_draw (by decide +kernel) ?_
          simp -implicitDefEqProofs only [go_sem, ↓reduceIte, Nat.reduceEqDiff, Nat.reduceLT, Nat.reduceLeDiff, Nat.reduceAdd, Nat.reduceMul, Nat.reduceSub, reduceCtorEq, Nat.reduceMod, Nat.reduceBEq, Int.reduceBEq, Int.reduceBNe, Int.reduceToNat]
          refine q_call _ (by simp -implicitDefEqProofs only [go_sem, ↓reduceIte, Nat.reduceEqDiff, Nat.reduceLT, Nat.reduceLeDiff, Nat.reduceAdd, Nat.reduceMul, Nat.reduceSub, reduceCtorEq, Nat.reduceMod, Nat.reduceBEq, Int.reduceBEq, Int.reduceBNe, Int.reduceToNat]; exact depth_spec ll _) (by decide) rfl ?_
          simp -implicitDefEqProofs only [go_sem, ↓reduceIte, Nat.reduceEqDiff, Nat.reduceLT, Nat.reduceLeDiff, Nat.reduceAdd, Nat.reduceMul, Nat.reduceSub, reduceCtorEq, Nat.reduceMod, Nat.reduceBEq, Int.reduceBEq, Int.reduceBNe, Int.reduceToNat, hw2, c2]
          refine left_spec fl f1 f2 f3 _ _ ?_
          simp -implicitDefEqProofs only [go_sem, ↓reduceIte, Nat.reduceEqDiff, Nat.reduceLT, Nat.reduceLeDiff, Nat.reduceAdd, Nat.reduceMul, Nat.reduceSub, reduceCtorEq, Nat.reduceMod, Nat.reduceBEq, Int.reduceBEq, Int.reduceBNe, Int.reduceToNat]
          exact ⟨S, fun _ _ h => h, hK⟩
end Go.Proofs.Ytmedhhjbknnfkaa.V
