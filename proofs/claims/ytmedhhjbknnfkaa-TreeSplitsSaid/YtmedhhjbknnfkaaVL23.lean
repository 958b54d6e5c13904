/- VL, part 23: rows of zeros behind a nil slice. -/
import Derived.Test.YtmedhhjbknnfkaaVL22
import Derived.ArgAppend
import Derived.OwnWalk
import Derived.Tactics
set_option linter.unusedVariables false
namespace Go.VL
open Go

theorem run_zeros {P : Program} {w : World} (t ti ty e : TypeId) (i : TypeInfo) (z : Value) (ht : P.underlying t = some (.slice e)) {k : IntKind} (hti : P.underlying ti = some (.int k)) (hi : P.info? e = some i) (hz : i.zero = some z)
    (hsz : 0 < i.size) (hb0 : 0 < i.bytes) (kx : IntKind) (m : Nat) (hm : 0 < m) (hbytes : m * i.bytes ≤ 140737488355328) :
    (Builtin.append_ #[t, ti] ty #[.slice none 0 0, .int kx m]).run P w = .ok (.slice (some ⟨w.heap.size, 0, none⟩) m (grownCap w m 0 e)) (w.drew.alloc (.cells (Builtin.zeroCells z.cells m ++ Builtin.zeroCells z.cells (grownCap w m 0 e - m)) e)) := by
  have hle : m ≤ 140737488355328 := Nat.le_trans (Nat.le_mul_of_pos_right _ hb0) hbytes
  have hw : IntKind.i64.wrap (m : Int) = m := by rw [IntKind.wrap_i64]; omega
  have hneg : ¬ ((m : Int) < 0) := by omega
  have hbig : ¬ (281474976710656 < (m : Int) * (i.bytes : Int)) := by
    rw [← Int.natCast_mul]
    omega
  have hn : ¬ (m ≤ 0) := by omega
  have h63' : ¬ (9223372036854775807 < (m : Int)) := by omega
  have hfit := growslice_fits (need := m) (old := 0) (by omega) hbytes
  have h48' : ¬ (281474976710656 < Builtin.nextslicecap m 0 * i.bytes) := by omega
  have hmz : ¬ (m * i.size = 0) := Nat.mul_ne_zero (by omega) (by omega)
  have hfo : (Builtin.firstCells i.size 0 (.slice none 0 0)).run P w.drew = .ok #[] w.drew := run_firstCells_none w.drew i.size 0 0 0
  have hm0 : ¬ (m = 0) := by omega
  simp [Builtin.append_, run_underlying ht, run_underlying hti, sizeOf, typeInfo, zeroValue, hi, hz, asInt, asIntOf, hw, hneg, hbig, h63', h48', Question.forced, hfo, newRow, grownCap, hmz, hm0]

theorem wpList_zeros {P : Program} {w : World} {ops : Array Oper} {rest : List Oper} {o : Oper} {a : Act} {Q : Exit → Act → World → Prop} (hg : o.guard = none) (s x : Operand) (t ti e : TypeId)
    (hop : o.op = Op.call { callee := Callee.builtin Builtin.append, args := #[s, x], argTypes := #[t, ti] })
    (i : TypeInfo) (z : Value) (ht : P.underlying t = some (.slice e)) {k : IntKind} (hti : P.underlying ti = some (.int k)) (hi : P.info? e = some i) (hz : i.zero = some z)
    (hsz : 0 < i.size) (hb0 : 0 < i.bytes) (kx : IntKind) (m : Nat) (hm : 0 < m) (hbytes : m * i.bytes ≤ 140737488355328) (hs : a.eval s = .slice none 0 0) (hx : a.eval x = .int kx m) {Z : Array Value} (hZ : Z = Builtin.zeroCells z.cells m ++ Builtin.zeroCells z.cells (grownCap w m 0 e - m))
    (hK : wpList P ops Q rest (a.put o.dst (.slice (some ⟨w.heap.size, 0, none⟩) m (grownCap w m 0 e))) (w.drew.alloc (.cells Z e))) :
    wpList P ops Q (o :: rest) a w := by
  subst hZ
  refine wpList_plain hg fun K hK' => ?_
  have hrun := run_zeros (P := P) (w := w) t ti o.type e i z ht hti hi hz hsz hb0 kx m hm hbytes
  unfold Oper.wp
  simp [execOp, hop, resolve, invoke, builtin, hs, hx, hrun, Result.andThen]
  exact hK' _ _ hK

/-- The room that is left where a row of zeros was made. -/
theorem zeros_top {g : Gh} {w : World} (hn : ∀ b o, w.heap.size ≤ b → g.lab b o = .free) {e : TypeId} {z : Value} {sz m : Nat} (hz : z.cells.size = sz) :
    ∃ g' Z, Z = Builtin.zeroCells z.cells m ++ Builtin.zeroCells z.cells (grownCap w m 0 e - m) ∧ Quiet g g' w (w.drew.alloc (.cells Z e)) ∧
      Top g' (w.drew.alloc (.cells Z e)) 0 (.sl .tail sz []) (.slice (some ⟨w.heap.size, 0, none⟩) 0 (grownCap w m 0 e)) := by
  have hge := grownCap_ge w m 0 e
  obtain ⟨g', q, ht⟩ := append_new (d := 0) hn (el := e) (sz := sz) (rows := []) (more := []) (olds := []) (news := []) (zs := Builtin.zeroCells z.cells m ++ Builtin.zeroCells z.cells (grownCap w m 0 e - m)) (cap := grownCap w m 0 e) (by simp) (by simp) (by simp) (by simp) (by simp) (by simp) (by simp) (by
    simp only [Array.size_append, size_zeroCells, hz, List.length_nil, Nat.add_zero, Nat.sub_zero]
    rw [← Nat.add_mul]
    congr 1
    omega)
  have e1 : (([] : List Value) ++ []).toArray ++ (Builtin.zeroCells z.cells m ++ Builtin.zeroCells z.cells (grownCap w m 0 e - m)) = Builtin.zeroCells z.cells m ++ Builtin.zeroCells z.cells (grownCap w m 0 e - m) := by simp
  rw [e1] at q ht
  exact ⟨g', _, rfl, q, ht⟩

/-- Who takes values without flags takes them with flags. -/
theorem PCalls.ofBare {P : Program} {f : FuncId} {args : List PV} {S : Store} {K : PV → Store → Prop} (h : PCalls P f (args.map PV.bare) S K) : PCalls P f args S K := by
  refine ⟨h.1, fun g w rargs hst => h.2 g w rargs ?_⟩
  have hbu : PV.bare .undef = .undef := rfl
  have henv : ∀ t, argEnv (args.map PV.bare) t = (argEnv args t).bare := by
    intro t
    simp only [argEnv, List.getD_eq_getElem?_getD, List.getElem?_map]
    cases args[t]? <;> rfl
  exact ⟨by simpa using hst.size, fun t ht => by rw [henv]; exact (hst.slots t (by simpa using ht)).bare, fun t ht => by rw [henv, hst.beyond t (by simpa using ht)]; rfl, hst.objs, hst.new⟩
end Go.VL
