/- VL, part 19: functions. -/
import Derived.Test.YtmedhhjbknnfkaaVL18
set_option linter.unusedVariables false
set_option linter.unusedSimpArgs false
namespace Go.VL
open Go

section
variable {C : Ctx} {X : Fx} {o : Oper} {g : Gh} {w : World} {a : Act} {e : Env} {S : Store}

def presult1 (C : Ctx) (e : Env) (S : Store) : ResultVar → Option PV
  | .tmp t => some (e t)
  | .cell b t => (match C.T t with
    | some ti => (match e b with
      | .ip cells off => pload ti cells off
      | .ref id off => (match S id with | some cells => pload ti (cells.map PV.bare) off | none => none)
      | _ => none)
    | none => none)
def presults (C : Ctx) (e : Env) (S : Store) : List ResultVar → Option (List PV)
  | [] => some []
  | r :: rs => (match presult1 C e S r, presults C e S rs with
    | some v, some vs => some (v.bare :: vs)
    | _, _ => none)
def presult (C : Ctx) (e : Env) (S : Store) (rs : List ResultVar) : Option PV :=
  match rs with
  | [r] => presult1 C e S r
  | rs => (presults C e S rs).map .tup

def resRun (tmps : Array Value) : ResultVar → Sem Value
  | .tmp t => pure (tmps.getD t Go.undef)
  | .cell a t => do loadVar t (← asAddr (tmps.getD a Go.undef))

theorem presult1_run {r : ResultVar} {v : PV} (h : St X.n g w e S a.tmps) (hp : presult1 C e S r = some v) : ∃ rv, (resRun a.tmps r).run C.P w = .ok rv w ∧ Rel g w v rv ∧ ((∃ t, r = .tmp t ∧ v = e t ∧ rv = a.eval (.tmp t)) ∨ v.bare = v) := by
  cases r with
  | tmp t =>
    injection hp with hp
    subst hp
    exact ⟨_, rfl, (h.top t).rel, .inl ⟨t, rfl, rfl, rfl⟩⟩
  | cell b t =>
    simp only [presult1] at hp
    split at hp
    · rename_i ti hT
      have hr := (h.top b).rel
      split at hp
      · rename_i cells off hb
        rw [hb] at hr
        obtain ⟨ad, y, h1, h2, h3, h4⟩ := pload_ip hT hp hr
        have h1' : a.tmps.getD b Go.undef = .pointer (some ad) := h1
        refine ⟨y, ?_, h3, .inr h4⟩
        simp only [resRun, h1', asAddr, Sem.run_bind, Sem.run_pure, Result.andThen_ok, h2]
      · rename_i id off hb
        rw [hb] at hr
        split at hp
        · rename_i cells hS
          obtain ⟨ad, y, h1, h2, h3, h4⟩ := pload_obj hT (h.objs _ _ hS).bareCells hp hr
          have h1' : a.tmps.getD b Go.undef = .pointer (some ad) := h1
          refine ⟨y, ?_, h3, .inr h4⟩
          simp only [resRun, h1', asAddr, Sem.run_bind, Sem.run_pure, Result.andThen_ok, h2]
        · cases hp
      · cases hp
    · cases hp

theorem presults_run (h : St X.n g w e S a.tmps) : ∀ (rs : List ResultVar) (vs : List PV), presults C e S rs = some vs →
    ∃ us : List Value, (rs.mapM (resRun a.tmps)).run C.P w = .ok us w ∧ vs.length = us.length ∧ us.length = rs.length ∧ ∀ (k : Nat) v rv, vs[k]? = some v → us[k]? = some rv → Rel g w v rv
  | [], vs, hp => by
    injection hp with hp
    subst hp
    exact ⟨[], rfl, rfl, rfl, by simp⟩
  | r :: rs, vs, hp => by
    simp only [presults] at hp
    split at hp
    · rename_i v vr h1 h2
      injection hp with hp
      subst hp
      obtain ⟨rv, q1, q2, _⟩ := presult1_run h h1
      obtain ⟨us, r1, r2, r3, r4⟩ := presults_run h rs vr h2
      refine ⟨rv :: us, ?_, by simp [r2], by simp [r3], fun k v' rv' hk hk' => ?_⟩
      · simp only [List.mapM_cons, Sem.run_bind, q1, r1, Result.andThen_ok, Sem.run_pure]
      · rcases k with _ | k
        · simp at hk hk'; subst hk; subst hk'; exact q2.bare
        · exact r4 k v' rv' (by simpa using hk) (by simpa using hk')
    · cases hp

theorem presult_run {fn : Func} {v : PV} (h : St X.n g w e S a.tmps) (hp : presult C e S fn.results.toList = some v) :
    ∃ rv, (results fn a.tmps).run C.P w = .ok rv w ∧ Rel g w v rv ∧ ((∃ t, t < X.n ∧ v = e t ∧ rv = a.eval (.tmp t)) ∨ v.bare = v) := by
  have hres : (results fn a.tmps) = (do let vs ← fn.results.mapM (resRun a.tmps); pure (if h : vs.size = 1 then vs[0] else .tuple vs)) := by
    unfold results
    congr 1
  unfold presult at hp
  split at hp
  · rename_i r hr
    obtain ⟨rv, h1, h2, h3⟩ := presult1_run h hp
    have hrs : fn.results = #[r] := by
      apply Array.ext'
      simpa using hr
    refine ⟨rv, ?_, h2, ?_⟩
    · rw [hres, hrs]
      simp [Array.mapM_eq_mapM_toList, h1]
    · rcases h3 with ⟨t, _, h5, h6⟩ | h3
      · by_cases ht : t < X.n
        · exact .inl ⟨t, ht, h5, h6⟩
        · right
          rw [h5, h.beyond t (Nat.le_of_not_lt ht)]
          rfl
      · exact .inr h3
  · rename_i hne
    cases hps : presults C e S fn.results.toList with
    | none => rw [hps] at hp; cases hp
    | some vs =>
      rw [hps] at hp
      simp only [Option.map_some, Option.some.injEq] at hp
      subst hp
      obtain ⟨us, q1, q2, q3, q4⟩ := presults_run h _ _ hps
      have hsz : us.length ≠ 1 := by
        rw [q3]
        intro hl
        match hr : fn.results.toList, hl with
        | [r], _ => exact hne r hr
      refine ⟨.tuple us.toArray, ?_, .tup (by simpa using q2) (fun k v rv hk hk' => q4 k v rv hk (by simpa using hk')), .inr rfl⟩
      rw [hres]
      simp only [Array.mapM_eq_mapM_toList, Sem.run_bind]
      simp only [Sem.run_map, q1]
      simp [hsz]

def retPost (C : Ctx) (rs : List ResultVar) (K : PV → Store → Prop) : Post := fun x e S =>
  match x with
  | .exit _ => False
  | _ => (match presult C e S rs with
    | some v => ∃ S', (∀ id c, S' id = some c → S id = some c) ∧ K v S'
    | none => False)

theorem pcalls_of {f : FuncId} {fn : Func} {c : Code} {args : List PV} {K : PV → Store → Prop} (mv vars : Nat → Bool) (hf : C.P.funcs[f]? = some fn) (hb : fn.body = some c) (hname : (fn.name == "runtime.NumGoroutine") = false) (hl : args.length ≤ fn.ntmps)
    (hv : vwp C ⟨fn.ntmps, mv, vars⟩ c (retPost C fn.results.toList K) (argEnv args) S) : PCalls C.P f args S K := by
  refine ⟨⟨fn, hf, hname, by rw [hb]; rfl⟩, fun g w rargs hst => ?_⟩
  refine calls_of_wp hf hb ?_
  have hsz : rargs.size = args.length := hst.size
  have h0 : St fn.ntmps g w (argEnv args) S (rargs ++ Array.replicate (fn.ntmps - rargs.size) Go.undef) := by
    refine ⟨by simp; omega, fun t ht => ?_, fun t ht => hst.beyond t (by omega), hst.objs, hst.new⟩
    by_cases hta : t < args.length
    · have := hst.slots t hta
      have e1 : (rargs ++ Array.replicate (fn.ntmps - rargs.size) Go.undef).getD t Go.undef = rargs.getD t Go.undef := by
        simp only [Array.getD_eq_getD_getElem?]
        rw [Array.getElem?_append_left (by omega)]
      rw [e1]
      exact this
    · rw [hst.beyond t (by omega)]
      exact ⟨.undef _, by simp [Tail]⟩
  refine Code.wp_mono ?_ (vwp_sound (C := C) (X := ⟨fn.ntmps, mv, vars⟩) c (a := ⟨rargs ++ Array.replicate (fn.ntmps - rargs.size) Go.undef, []⟩) h0 hv)
  rintro ex a' w' ⟨px, e', S', g', hx, hq, hst', hd, fr⟩
  have fin : (match presult C e' S' fn.results.toList with | some v => ∃ S2, (∀ id c, S2 id = some c → S' id = some c) ∧ K v S2 | none => False) →
      a'.defers = [] ∧ ∃ v, (results fn a'.tmps).run C.P w' = .ok v w' ∧ ∃ rv v2 S2 g2, Ending.returned v = .returned rv ∧ K v2 S2 ∧ Fr g g2 w w' ∧ Top g2 w' 0 v2 rv ∧ (∀ id cells, S2 id = some cells → ObjOk g2 w' id cells) ∧ ∀ b o, w'.heap.size ≤ b → g2.lab b o = .free := by
    intro hp
    split at hp
    · rename_i v hpv
      obtain ⟨S2, hS2, hK⟩ := hp
      obtain ⟨rv, h1, h2, h3⟩ := presult_run (X := ⟨fn.ntmps, mv, vars⟩) hst' hpv
      refine ⟨hd, rv, h1, ?_⟩
      rcases h3 with ⟨t, ht, hv, hrv⟩ | hbare
      · have htop := hst'.slots t ht
        subst hv
        refine ⟨rv, e' t, S2, g'.pass t 0, rfl, hK, fr.trans (Fr.pass g' w' t 0), ⟨h2.mono (Fr.pass g' w' t 0), ?_⟩, fun id cells hi => (hst'.objs id cells (hS2 id cells hi)).pass, fun b o hb => by have := hst'.new b o hb; simp [Gh.pass, this]⟩
        have : Tail g' w' t (e' t) rv := by rw [hrv]; exact htop.tail
        exact this.passed
      · exact ⟨rv, v, S2, g', rfl, hK, fr, .ofRel h2 hbare, fun id cells hi => hst'.objs id cells (hS2 id cells hi), hst'.new⟩
    · exact hp.elim
  cases ex <;> cases px <;> try exact hx.elim
  · obtain ⟨h1, v, h2, h3⟩ := fin hq
    exact ⟨h1, v, h2, h3⟩
  · exact hq.elim
  · obtain ⟨h1, v, h2, h3⟩ := fin hq
    exact ⟨h1, v, h2, h3⟩
end
end Go.VL
