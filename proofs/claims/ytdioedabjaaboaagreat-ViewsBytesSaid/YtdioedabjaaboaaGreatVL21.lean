/- VL, part 18: code. -/
import Derived.Test.YtdioedabjaaboaaGreatVL17
import Derived.LoopN
set_option linter.unusedVariables false
set_option linter.unusedSimpArgs false
namespace Go.VL
open Go

section
variable {C : Ctx} {X : Fx} {o : Oper} {g : Gh} {w : World} {a : Act} {e : Env} {S : Store} {K : Env → Store → Prop} {R : Act → World → Prop} {Q : Exit → Act → World → Prop}

/-! ### code -/
inductive PExit where
 | normal
 | exit (id : Nat)
 | ret

abbrev Post := PExit → Env → Store → Prop

def thenK (W : Env → Store → Prop) (Q : Post) : Post
 | .normal, e, S => W e S
 | x, e, S => Q x e S
def blockK (id : Nat) (Q : Post) : Post
 | .exit j, e, S => if j = id then Q .normal e S else Q (.exit j) e S
 | x, e, S => Q x e S
def loopK (I : Env → Store → Prop) (m : Env → Store → Nat) (k : Nat) (Q : Post) : Post
 | .normal, e, S => ∃ S', (∀ id c, S' id = some c → S id = some c) ∧ I e S' ∧ m e S' < k
 | x, e, S => Q x e S

def vwp (C : Ctx) (X : Fx) : Code → Post → Env → Store → Prop
 | .skip, Q, e, S => Q .normal e S
 | .region _ ops false, Q, e, S => vops C X ops.toList (Q .normal) ops.toList e S
 | .region _ ops true, Q, e, S => vdraw C X ops (Q .normal) e S
 | .seq x y, Q, e, S => vwp C X x (thenK (vwp C X y Q) Q) e S
 | .cond c x y, Q, e, S => (match ev c e with | .bool true => vwp C X x Q e S | .bool false => vwp C X y Q e S | _ => False)
 | .block id c, Q, e, S => vwp C X c (blockK id Q) e S
 | .loop c, Q, e, S => ∃ (I : Env → Store → Prop) (m : Env → Store → Nat), I e S ∧ ∀ e S, I e S → vwp C X c (loopK I m (m e S) Q) e S
 | .exit id, Q, e, S => Q (.exit id) e S
 | .ret, Q, e, S => Q .ret e S
 | _, _, _, _ => False

/-- What a plain post means. -/
def Lift (X : Fx) (g : Gh) (w : World) (a : Act) (Q : Post) : Exit → Act → World → Prop := fun x a' w' =>
 ∃ px e' S' g', (match x, px with | .normal, .normal => True | .exit i, .exit j => i = j | .ret, .ret => True | _, _ => False) ∧ Q px e' S' ∧ St X.n g' w' e' S' a'.tmps ∧ a'.defers = a.defers ∧ Fr g g' w w'

theorem vwp_sound : ∀ (c : Code) {Q : Post} {g : Gh} {w : World} {e : Env} {S : Store} {a : Act}, St X.n g w e S a.tmps → vwp C X c Q e S → c.wp C.P (Lift X g w a Q) a w
 | .skip, Q, g, w, e, S, a, h, hv => wp_skip ⟨.normal, e, S, g, trivial, hv, h, rfl, Fr.refl g w⟩
 | .region i ops false, Q, g, w, e, S, a, h, hv => by
  unfold vwp at hv
  refine wp_region_list (vops_sound ops.toList h hv ?_)
  intro e' S' g' w' a' hK hst hd fr
  exact ⟨.normal, e', S', g', trivial, hK, hst, hd, fr⟩
 | .region i ops true, Q, g, w, e, S, a, h, hv => by
  unfold vwp at hv
  have q := Quiet.drew (w := w) h.new
  refine wp_region_any C.hm (hv g w.drew a _ (h.quiet q) ?_)
  intro e' S' g' w' a' hK hst hd fr
  exact ⟨.normal, e', S', g', trivial, hK, hst, hd, q.toFr.trans fr⟩
 | .seq x y, Q, g, w, e, S, a, h, hv => by
  unfold vwp at hv
  refine wp_seq (Code.wp_mono ?_ (vwp_sound x h hv))
  rintro ex a1 w1 ⟨px, e1, S1, g1, hx, hq, hst, hd, fr⟩
  cases ex <;> cases px <;> try exact hx.elim
  ·simp only [thenK] at hq
   refine Code.wp_mono ?_ (vwp_sound y hst hq)
   rintro ex a2 w2 ⟨px, e2, S2, g2, hx2, hq2, hst2, hd2, fr2⟩
   exact ⟨px, e2, S2, g2, hx2, hq2, hst2, hd2.trans hd, fr.trans fr2⟩
  ·exact ⟨_, e1, S1, g1, hx, hq, hst, hd, fr⟩
  ·exact ⟨_, e1, S1, g1, hx, hq, hst, hd, fr⟩
 | .cond c x y, Q, g, w, e, S, a, h, hv => by
  unfold vwp at hv
  split at hv
  ·rename_i ht
   have hr := rel_bool (ht ▸ h.ev c)
   exact wp_cond_true hr (vwp_sound x h hv)
  ·rename_i ht
   have hr := rel_bool (ht ▸ h.ev c)
   exact wp_cond_false hr (vwp_sound y h hv)
  ·exact hv.elim
 | .block id c, Q, g, w, e, S, a, h, hv => by
  unfold vwp at hv
  refine wp_block (Code.wp_mono ?_ (vwp_sound c h hv))
  rintro ex a1 w1 ⟨px, e1, S1, g1, hx, hq, hst, hd, fr⟩
  cases ex <;> cases px <;> try exact hx.elim
  ·exact ⟨_, e1, S1, g1, trivial, hq, hst, hd, fr⟩
  ·rename_i i j
   simp only at hx
   subst hx
   simp only [blockK] at hq
   simp only [Exit.inBlock]
   split
   ·rename_i hi; rw [if_pos hi] at hq; exact ⟨.normal, e1, S1, g1, trivial, hq, hst, hd, fr⟩
   ·rename_i hi; rw [if_neg hi] at hq; exact ⟨.exit i, e1, S1, g1, rfl, hq, hst, hd, fr⟩
  ·exact ⟨.ret, e1, S1, g1, trivial, hq, hst, hd, fr⟩
 | .loop c, Q, g, w, e, S, a, h, hv => by
  unfold vwp at hv
  obtain ⟨I, m, hI, round⟩ := hv
  have key : ∀ (n : Nat) (e1 : Env) (S1 : Store) (g1 : Gh) (w1 : World) (a1 : Act), m e1 S1 < n → I e1 S1 → St X.n g1 w1 e1 S1 a1.tmps → a1.defers = a.defers → Fr g g1 w w1 → Code.rounds C.P c (Lift X g w a Q) n a1 w1 := by
   intro n
   induction n with
   | zero => intro e1 S1 g1 w1 a1 hn; omega
   | succ n ih =>
    intro e1 S1 g1 w1 a1 hn hI1 hst1 hd1 fr1
    refine Code.wp_mono ?_ (vwp_sound c hst1 (round e1 S1 hI1))
    rintro ex a2 w2 ⟨px, e2, S2, g2, hx, hq, hst2, hd2, fr2⟩
    cases ex <;> cases px <;> try exact hx.elim
    ·obtain ⟨S3, hs, hI3, hlt⟩ := hq
     exact ih e2 S3 g2 w2 a2 (by omega) hI3 (hst2.drop hs) (hd2.trans hd1) (fr1.trans fr2)
    ·exact ⟨_, e2, S2, g2, hx, hq, hst2, hd2.trans hd1, fr1.trans fr2⟩
    ·exact ⟨_, e2, S2, g2, hx, hq, hst2, hd2.trans hd1, fr1.trans fr2⟩
  exact wp_loop_rounds _ (key _ e S g w a (Nat.lt_succ_self _) hI h rfl (Fr.refl g w))
 | .exit id, Q, g, w, e, S, a, h, hv => wp_exit ⟨.exit id, e, S, g, rfl, hv, h, rfl, Fr.refl g w⟩
 | .ret, Q, g, w, e, S, a, h, hv => wp_ret ⟨.ret, e, S, g, trivial, hv, h, rfl, Fr.refl g w⟩
 | .rangeFunc .., _, _, _, _, _, _, _, hv => by unfold vwp at hv; exact hv.elim
 | .scope _, _, _, _, _, _, _, _, hv => by unfold vwp at hv; exact hv.elim
 | .label _, _, _, _, _, _, _, _, hv => by unfold vwp at hv; exact hv.elim
 | .goto _, _, _, _, _, _, _, _, hv => by unfold vwp at hv; exact hv.elim
 | .refuse _, _, _, _, _, _, _, _, hv => by unfold vwp at hv; exact hv.elim
end
end Go.VL

/- VL, part 19: functions. -/
namespace Go.VL
open Go

section
variable {C : Ctx} {X : Fx} {o : Oper} {g : Gh} {w : World} {a : Act} {e : Env} {S : Store}

def presult1 (C : Ctx) (e : Env) (S : Store) : ResultVar → Option PV
 | .tmp t => some (e t)
 | .cell b t => (match C.T t with
  | some ti => (match e b with
   | .ip cells off => pload ti cells off
   | .ref id off => (match S id with | some cells => pload ti (cells.map PV.bare) off | none => none)
   | _ => none)
  | none => none)
def presults (C : Ctx) (e : Env) (S : Store) : List ResultVar → Option (List PV)
 | [] => some []
 | r :: rs => (match presult1 C e S r, presults C e S rs with
  | some v, some vs => some (v.bare :: vs)
  | _, _ => none)
def presult (C : Ctx) (e : Env) (S : Store) (rs : List ResultVar) : Option PV :=
 match rs with
 | [r] => presult1 C e S r
 | rs => (presults C e S rs).map .tup

def resRun (tmps : Array Value) : ResultVar → Sem Value
 | .tmp t => pure (tmps.getD t Go.undef)
 | .cell a t => do loadVar t (← asAddr (tmps.getD a Go.undef))

theorem presult1_run {r : ResultVar} {v : PV} (h : St X.n g w e S a.tmps) (hp : presult1 C e S r = some v) : ∃ rv, (resRun a.tmps r).run C.P w = .ok rv w ∧ Rel g w v rv ∧ ((∃ t, r = .tmp t ∧ v = e t ∧ rv = a.eval (.tmp t)) ∨ v.bare = v) := by
 cases r with
 | tmp t =>
  injection hp with hp
  subst hp
  exact ⟨_, rfl, (h.top t).rel, .inl ⟨t, rfl, rfl, rfl⟩⟩
 | cell b t =>
  simp only [presult1] at hp
  split at hp
  ·rename_i ti hT
   have hr := (h.top b).rel
   split at hp
   ·rename_i cells off hb
    rw [hb] at hr
    obtain ⟨ad, y, h1, h2, h3, h4⟩ := pload_ip hT hp hr
    have h1' : a.tmps.getD b Go.undef = .pointer (some ad) := h1
    refine ⟨y, ?_, h3, .inr h4⟩
    simp only [resRun, h1', asAddr, Sem.run_bind, Sem.run_pure, Result.andThen_ok, h2]
   ·rename_i id off hb
    rw [hb] at hr
    split at hp
    ·rename_i cells hS
     obtain ⟨ad, y, h1, h2, h3, h4⟩ := pload_obj hT (h.objs _ _ hS).bareCells hp hr
     have h1' : a.tmps.getD b Go.undef = .pointer (some ad) := h1
     refine ⟨y, ?_, h3, .inr h4⟩
     simp only [resRun, h1', asAddr, Sem.run_bind, Sem.run_pure, Result.andThen_ok, h2]
    ·cases hp
   ·cases hp
  ·cases hp

theorem presults_run (h : St X.n g w e S a.tmps) : ∀ (rs : List ResultVar) (vs : List PV), presults C e S rs = some vs →
  ∃ us : List Value, (rs.mapM (resRun a.tmps)).run C.P w = .ok us w ∧ vs.length = us.length ∧ us.length = rs.length ∧ ∀ (k : Nat) v rv, vs[k]? = some v → us[k]? = some rv → Rel g w v rv
 | [], vs, hp => by
  injection hp with hp
  subst hp
  exact ⟨[], rfl, rfl, rfl, by simp⟩
 | r :: rs, vs, hp => by
  simp only [presults] at hp
  split at hp
  ·rename_i v vr h1 h2
   injection hp with hp
   subst hp
   obtain ⟨rv, q1, q2, _⟩ := presult1_run h h1
   obtain ⟨us, r1, r2, r3, r4⟩ := presults_run h rs vr h2
   refine ⟨rv :: us, ?_, by simp [r2], by simp [r3], fun k v' rv' hk hk' => ?_⟩
   ·simp only [List.mapM_cons, Sem.run_bind, q1, r1, Result.andThen_ok, Sem.run_pure]
   ·rcases k with _ | k
    ·simp at hk hk'; subst hk; subst hk'; exact q2.bare
    ·exact r4 k v' rv' (by simpa using hk) (by simpa using hk')
  ·cases hp

theorem presult_run {fn : Func} {v : PV} (h : St X.n g w e S a.tmps) (hp : presult C e S fn.results.toList = some v) :
  ∃ rv, (results fn a.tmps).run C.P w = .ok rv w ∧ Rel g w v rv ∧ ((∃ t, t < X.n ∧ v = e t ∧ rv = a.eval (.tmp t)) ∨ v.bare = v) := by
 have hres : (results fn a.tmps) = (do let vs ← fn.results.mapM (resRun a.tmps); pure (if h : vs.size = 1 then vs[0] else .tuple vs)) := by
  unfold results
  congr 1
 unfold presult at hp
 split at hp
 ·rename_i r hr
  obtain ⟨rv, h1, h2, h3⟩ := presult1_run h hp
  have hrs : fn.results = #[r] := by
   apply Array.ext'
   simpa using hr
  refine ⟨rv, ?_, h2, ?_⟩
  ·rw [hres, hrs]
   simp [Array.mapM_eq_mapM_toList, h1]
  ·rcases h3 with ⟨t, _, h5, h6⟩ | h3
   ·by_cases ht : t < X.n
    ·exact .inl ⟨t, ht, h5, h6⟩
    ·right
     rw [h5, h.beyond t (Nat.le_of_not_lt ht)]
     rfl
   ·exact .inr h3
 ·rename_i hne
  cases hps : presults C e S fn.results.toList with
  | none => rw [hps] at hp; cases hp
  | some vs =>
   rw [hps] at hp
   simp only [Option.map_some, Option.some.injEq] at hp
   subst hp
   obtain ⟨us, q1, q2, q3, q4⟩ := presults_run h _ _ hps
   have hsz : us.length ≠ 1 := by
    rw [q3]
    intro hl
    match hr : fn.results.toList, hl with
    | [r], _ => exact hne r hr
   refine ⟨.tuple us.toArray, ?_, .tup (by simpa using q2) (fun k v rv hk hk' => q4 k v rv hk (by simpa using hk')), .inr rfl⟩
   rw [hres]
   simp only [Array.mapM_eq_mapM_toList, Sem.run_bind]
   simp only [Sem.run_map, q1]
   simp [hsz]

def retPost (C : Ctx) (rs : List ResultVar) (K : PV → Store → Prop) : Post := fun x e S =>
 match x with
 | .exit _ => False
 | _ => (match presult C e S rs with
  | some v => ∃ S', (∀ id c, S' id = some c → S id = some c) ∧ K v S'
  | none => False)

theorem pcalls_of {f : FuncId} {fn : Func} {c : Code} {args : List PV} {K : PV → Store → Prop} (mv vars : Nat → Bool) (hf : C.P.funcs[f]? = some fn) (hb : fn.body = some c) (hname : (fn.name == "runtime.NumGoroutine") = false) (hl : args.length ≤ fn.ntmps)
  (hv : vwp C ⟨fn.ntmps, mv, vars⟩ c (retPost C fn.results.toList K) (argEnv args) S) : PCalls C.P f args S K := by
 refine ⟨⟨fn, hf, hname, by rw [hb]; rfl⟩, fun g w rargs hst => ?_⟩
 refine calls_of_wp hf hb ?_
 have hsz : rargs.size = args.length := hst.size
 have h0 : St fn.ntmps g w (argEnv args) S (rargs ++ Array.replicate (fn.ntmps - rargs.size) Go.undef) := by
  refine ⟨by simp; omega, fun t ht => ?_, fun t ht => hst.beyond t (by omega), hst.objs, hst.new⟩
  by_cases hta : t < args.length
  ·have := hst.slots t hta
   have e1 : (rargs ++ Array.replicate (fn.ntmps - rargs.size) Go.undef).getD t Go.undef = rargs.getD t Go.undef := by
    simp only [Array.getD_eq_getD_getElem?]
    rw [Array.getElem?_append_left (by omega)]
   rw [e1]
   exact this
  ·rw [hst.beyond t (by omega)]
   exact ⟨.undef _, by simp [Tail]⟩
 refine Code.wp_mono ?_ (vwp_sound (C := C) (X := ⟨fn.ntmps, mv, vars⟩) c (a := ⟨rargs ++ Array.replicate (fn.ntmps - rargs.size) Go.undef, []⟩) h0 hv)
 rintro ex a' w' ⟨px, e', S', g', hx, hq, hst', hd, fr⟩
 have fin : (match presult C e' S' fn.results.toList with | some v => ∃ S2, (∀ id c, S2 id = some c → S' id = some c) ∧ K v S2 | none => False) →
   a'.defers = [] ∧ ∃ v, (results fn a'.tmps).run C.P w' = .ok v w' ∧ ∃ rv v2 S2 g2, Ending.returned v = .returned rv ∧ K v2 S2 ∧ Fr g g2 w w' ∧ Top g2 w' 0 v2 rv ∧ (∀ id cells, S2 id = some cells → ObjOk g2 w' id cells) ∧ ∀ b o, w'.heap.size ≤ b → g2.lab b o = .free := by
  intro hp
  split at hp
  ·rename_i v hpv
   obtain ⟨S2, hS2, hK⟩ := hp
   obtain ⟨rv, h1, h2, h3⟩ := presult_run (X := ⟨fn.ntmps, mv, vars⟩) hst' hpv
   refine ⟨hd, rv, h1, ?_⟩
   rcases h3 with ⟨t, ht, hv, hrv⟩ | hbare
   ·have htop := hst'.slots t ht
    subst hv
    refine ⟨rv, e' t, S2, g'.pass t 0, rfl, hK, fr.trans (Fr.pass g' w' t 0), ⟨h2.mono (Fr.pass g' w' t 0), ?_⟩, fun id cells hi => (hst'.objs id cells (hS2 id cells hi)).pass, fun b o hb => by have := hst'.new b o hb; simp [Gh.pass, this]⟩
    have : Tail g' w' t (e' t) rv := by rw [hrv]; exact htop.tail
    exact this.passed
   ·exact ⟨rv, v, S2, g', rfl, hK, fr, .ofRel h2 hbare, fun id cells hi => hst'.objs id cells (hS2 id cells hi), hst'.new⟩
  ·exact hp.elim
 cases ex <;> cases px <;> try exact hx.elim
 ·obtain ⟨h1, v, h2, h3⟩ := fin hq
  exact ⟨h1, v, h2, h3⟩
 ·exact hq.elim
 ·obtain ⟨h1, v, h2, h3⟩ := fin hq
  exact ⟨h1, v, h2, h3⟩
end
end Go.VL

/- VL, part 20: a table of types, checked against the program's own. -/
namespace Go.VL
open Go

def relv : PV → Value → Bool
 | .undef, _ => true
 | .bool a, .bool b => a == b
 | .int k n, .int l m => decide (k = l) && decide (n = m)
 | .str s, .string t => s.data.toList == t.data.toList
 | .nilp, .pointer none => true
 | .sl _ _ [], .slice none 0 0 => true
 | .nilf, .nilFunc => true
 | .nili, .nilIface => true
 | .nilm, .map none => true
 | _, _ => false
theorem relv_opn {v : PV} {u : Value} (h : relv v u = true) (g : Gh) (w : World) : Rel g w v.opn u ∧ ∀ id k0, RoomOk g w id k0 v.opn u := by
 have hr : Rel g w v u := by
  unfold relv at h
  split at h
  ·exact .undef _
  ·rename_i a b
   have : a = b := by simpa using h
   subst this; exact .bool _
  ·simp only [Bool.and_eq_true, decide_eq_true_eq] at h
   obtain ⟨rfl, rfl⟩ := h
   exact .int _ _
  ·rename_i s t
   have : s = t := by
    have h1 : s.data.toList = t.data.toList := by simpa using h
    obtain ⟨⟨l⟩⟩ := s
    obtain ⟨⟨m⟩⟩ := t
    simp at h1
    subst h1
    rfl
   subst this; exact .str _
  ·exact .nilp
  ·exact .slnil _ _
  ·exact .nilf
  ·exact .nili
  ·exact .nilm
  ·cases h
 by_cases hs : ∃ f sz, v = .sl f sz []
 ·obtain ⟨f, sz, rfl⟩ := hs
  have : u = .slice none 0 0 := by
   unfold relv at h
   split at h <;> first | rfl | contradiction | simp_all
  subst this
  exact ⟨.slnil _ _, fun _ _ => by simp [PV.opn, RoomOk]⟩
 ·have : v.opn = v.bare := by
   cases v with
   | sl f sz rows =>
    cases rows with
    | nil => exact absurd ⟨f, sz, rfl⟩ hs
    | cons a b => rfl
   | _ => rfl
  rw [this]
  exact ⟨hr.bare, fun _ _ => RoomOk.bare _ _ _ _ _ _⟩
theorem relv_ok {v : PV} {u : Value} (h : relv v u = true) (g : Gh) (w : World) : Rel g w v u := by
 unfold relv at h
 split at h
 ·exact .undef _
 ·rename_i a b
  have : a = b := by simpa using h
  subst this; exact .bool _
 ·simp only [Bool.and_eq_true, decide_eq_true_eq] at h
  obtain ⟨rfl, rfl⟩ := h
  exact .int _ _
 ·rename_i s t
  have : s = t := by
   have h1 : s.data.toList = t.data.toList := by simpa using h
   obtain ⟨⟨l⟩⟩ := s
   obtain ⟨⟨m⟩⟩ := t
   simp at h1
   subst h1
   rfl
  subst this; exact .str _
 ·exact .nilp
 ·exact .slnil _ _
 ·exact .nilf
 ·exact .nili
 ·exact .nilm
 ·cases h

def relvs : List PV → List Value → Bool
 | [], [] => true
 | v :: vs, u :: us => relv v u && u.oneCell' && relvs vs us
 | _, _ => false
theorem relv_nil {v : PV} {u : Value} (h : relv v u = true) : ∀ f sz, v = .sl f sz [] → u = .slice none 0 0 := by
 rintro f sz rfl
 unfold relv at h
 split at h <;> first | rfl | contradiction | simp_all
theorem relvs_ok : ∀ (vs : List PV) (us : List Value), relvs vs us = true → vs.length = us.length ∧ (∀ u ∈ us, u.oneCell' = true) ∧ ∀ (g : Gh) (w : World) (k : Nat) v u, vs[k]? = some v → us[k]? = some u → Rel g w v u ∧ Rel g w v.opn u ∧ (∀ id k0, RoomOk g w id k0 v.opn u) ∧ ∀ f sz, v = .sl f sz [] → u = .slice none 0 0
 | [], [], _ => ⟨rfl, by simp, by simp⟩
 | v :: vs, u :: us, h => by
  simp only [relvs, Bool.and_eq_true] at h
  obtain ⟨h1, h2, h3⟩ := relvs_ok vs us h.2
  refine ⟨by simp [h1], fun x hx => ?_, fun g w k v' u' hv hu => ?_⟩
  ·rcases List.mem_cons.1 hx with rfl | hx
   ·exact h.1.2
   ·exact h2 x hx
  ·rcases k with _ | k
   ·simp at hv hu; subst hv; subst hu; exact ⟨relv_ok h.1.1 g w, (relv_opn h.1.1 g w).1, (relv_opn h.1.1 g w).2, relv_nil h.1.1⟩
   ·exact h3 g w k v' u' (by simpa using hv) (by simpa using hu)
 | [], u :: us, h => by simp [relvs] at h
 | v :: vs, [], h => by simp [relvs] at h

def fieldsOf (P : Program) : List Field → Option (List (Nat × TypeId × Nat))
 | [] => some []
 | f :: fs => (match P.info? f.type, fieldsOf P fs with
  | some i, some r => some ((f.offset, f.type, i.size) :: r)
  | _, _ => none)
theorem fieldsOf_ok (P : Program) : ∀ (fs : List Field) (r : List (Nat × TypeId × Nat)), fieldsOf P fs = some r →
  fs.mapM (fun f => (P.info? f.type).map fun i => (f.offset, i.size)) = some (r.map fun x => (x.1, x.2.2)) ∧ ∀ (j : Nat) f, fs[j]? = some f → ∃ i, P.info? f.type = some i ∧ r[j]? = some (f.offset, f.type, i.size)
 | [], r, h => by injection h with h; subst h; exact ⟨rfl, by simp⟩
 | f :: fs, r, h => by
  simp only [fieldsOf] at h
  split at h
  ·rename_i i r' h1 h2
   injection h with h
   subst h
   obtain ⟨q1, q2⟩ := fieldsOf_ok P fs r' h2
   refine ⟨by simp [List.mapM_cons, h1, q1], fun j g hg => ?_⟩
   rcases j with _ | j
   ·simp at hg; subst hg; exact ⟨i, h1, rfl⟩
   ·exact q2 j g (by simpa using hg)
  ·cases h

def kindb (P : Program) : TK → TypeDesc → Bool
 | .int k, .int l => decide (k = l)
 | .bool, .bool => true
 | .str, .string => true
 | .ptr, .pointer _ => true
 | .slice e, .slice f => decide (e = f)
 | .struct fs, .struct a => (match fieldsOf P a.toList with | some r => r == fs | none => false)
 | .array n e, .array m f => decide (n = m) && decide (e = f)
 | .iface, .interface _ => true
 | .func, .func .. => true
 | .other, .map .. => true
 | .other, .tuple .. => true
 | _, _ => false
theorem kindb_ok {P : Program} {k : TK} {d : TypeDesc} (h : kindb P k d = true) : TKok P k d := by
 unfold kindb at h
 split at h
 ·rename_i a b
  have : a = b := by simpa using h
  subst this; rfl
 ·rfl
 ·rfl
 ·exact ⟨_, rfl⟩
 ·rename_i a b
  have : a = b := by simpa using h
  subst this; rfl
 ·rename_i fs a
  split at h
  ·rename_i r hr
   have : r = fs := by simpa using h
   subst this
   obtain ⟨q1, q2⟩ := fieldsOf_ok P _ _ hr
   exact ⟨a, rfl, q1, fun j f hf => q2 j f (by rw [Array.getElem?_toList]; exact hf)⟩
  ·cases h
 ·simp only [Bool.and_eq_true, decide_eq_true_eq] at h
  obtain ⟨rfl, rfl⟩ := h
  rfl
 ·exact ⟨_, rfl⟩
 ·exact ⟨_, _, _, rfl⟩
 ·exact .inl ⟨_, _, rfl⟩
 ·exact .inr ⟨_, rfl⟩
 ·cases h

def tib (P : Program) (t : TypeId) (ti : TI) : Bool :=
 match P.info? t, P.underlying t with
 | some i, some d => (match i.zero with
  | some z => i.size == ti.size && i.bytes == ti.bytes && z.cells.size == ti.size && ti.zero.length == ti.size && relvs ti.zero z.cells.toList && kindb P ti.k d
  | none => false)
 | _, _ => false
theorem tib_ok {P : Program} {t : TypeId} {ti : TI} (h : tib P t ti = true) : TIok P t ti := by
 unfold tib at h
 split at h
 ·rename_i i d hi hd
  split at h
  ·rename_i z hz
   simp only [Bool.and_eq_true, beq_iff_eq] at h
   obtain ⟨⟨⟨⟨⟨h1, h2⟩, h3⟩, h4⟩, h5⟩, h6⟩ := h
   obtain ⟨q1, q2, q3⟩ := relvs_ok _ _ h5
   refine ⟨⟨i, z, hi, h1, h2, hz, h3, q2, h4, fun g w k v u hv hu => q3 g w k v u hv (by rw [Array.getElem?_toList]; exact hu)⟩, d, hd, kindb_ok h6⟩
  ·cases h
 ·cases h

def eqb (P : Program) (t : TypeId) : Bool := !P.stoodInHeld t && !P.eqGuardType P.depth t && (P.fieldsOf t).toList.all fun f => f.name != "_"
theorem eqb_ok {P : Program} {t : TypeId} (h : eqb P t = true) : EqOk P t := by
 simp only [eqb, Bool.and_eq_true, Bool.not_eq_true', List.all_eq_true, bne_iff_ne, ne_eq] at h
 exact ⟨h.1.1, h.1.2, h.2⟩
def ptb (P : Program) (t : TypeId) : Bool :=
 match P.underlying t with
 | some (.pointer el) => (match P.info? el with | some i => i.size != 0 | none => false)
 | _ => false
theorem ptb_ok {P : Program} {t : TypeId} (h : ptb P t = true) : ∃ el i, P.underlying t = some (.pointer el) ∧ P.info? el = some i ∧ i.size ≠ 0 := by
 unfold ptb at h
 split at h
 ·rename_i el hu
  split at h
  ·rename_i i hi
   exact ⟨el, i, hu, hi, by simpa using h⟩
  ·cases h
 ·cases h
theorem all_ok {p : TypeId → Bool} (l : List TypeId) (h : l.all p = true) (t : TypeId) (ht : l.elem t = true) : p t = true := by
 rw [List.all_eq_true] at h
 exact h t (by simpa using ht)

def lookT (tab : List (TypeId × TI)) (t : TypeId) : Option TI :=
 match tab with
 | [] => none
 | (s, ti) :: r => if t = s then some ti else lookT r t
theorem lookT_ok {P : Program} : ∀ (tab : List (TypeId × TI)), (tab.all fun x => tib P x.1 x.2) = true → ∀ t ti, lookT tab t = some ti → TIok P t ti
 | [], _, t, ti, h => by simp [lookT] at h
 | (s, tj) :: r, ha, t, ti, h => by
  simp only [List.all_cons, Bool.and_eq_true] at ha
  simp only [lookT] at h
  split at h
  ·rename_i hts
   injection h with h
   subst h; subst hts
   exact tib_ok ha.1
  ·exact lookT_ok r ha.2 t ti h
end Go.VL

/- VL, part 21: rules by which simp walks. -/
namespace Go.VL
open Go

section
variable {C : Ctx} {X : Fx} {e : Env} {S : Store} {K : Env → Store → Prop} {Q : Post} {ty t f i j s d n sz id off : Nat} {p : String} {af : Array Edge} {gd : Option (Nat × Bool)} {all os : List Oper} {x y : Operand} {v u : PV}

/-! ### forms with the value as the last argument -/
def vPutV (X : Fx) (d : Nat) (K : Env → Store → Prop) (e : Env) (S : Store) : Option PV → Prop
 | some v => d < X.n ∧ K (e.put d v) S
 | none => False
def vSmM (C : Ctx) (X : Fx) (d : Nat) (op : BinOp) (z : Bool) (ti : Option TI) (mz : Option Value) (K : Env → Store → Prop) (e : Env) (S : Store) : PV → Operand → Prop
 | .mref _, .const (.map none) => vEqM X op false mz (some d) K e S
 | .nilm, .const (.map none) => vEqM X op true mz (some d) K e S
 | u, y => vSame C X op z ti u y (some d) K e S
def vBnV (C : Ctx) (X : Fx) (d : Nat) (op : BinOp) (z : Bool) (ti : Option TI) (mz : Option Value) (u : PV) (y : Operand) (K : Env → Store → Prop) (e : Env) (S : Store) : Option PV → Prop
 | some v => d < X.n ∧ K (e.put d v) S
 | none => vSmM C X d op z ti mz K e S u y
def vMv (X : Fx) (d s : Nat) (K : Env → Store → Prop) (e : Env) (S : Store) : Bool → Prop
 | false => d < X.n ∧ K (e.put d (e s).bare) S
 | true => (d < X.n ∧ s < X.n ∧ s ≠ d) ∧ K ((e.put s (e s).bare).put d (e s)) S
def vTk2 (X : Fx) (d : Nat) (K : Env → Store → Prop) (e : Env) (S : Store) (id off : Nat) (cells : List PV) : Bool → Option PV → Prop
 | false, some v => (d < X.n ∧ isSl v = true) ∧ K (e.put d v) (S.set id (some (psplice cells off [v.bare])))
 | _, _ => False
def vTk (X : Fx) (d : Nat) (K : Env → Store → Prop) (e : Env) (S : Store) (ti : TI) (id off : Nat) (cells : List PV) : Bool → Prop
 | false => vPutV X d K e S (pload ti (cells.map PV.bare) off)
 | true => vTk2 X d K e S id off cells ti.k.agg cells[off]?
def vLdR (X : Fx) (d : Nat) (K : Env → Store → Prop) (e : Env) (S : Store) (ti : TI) (id off : Nat) : Option (List PV) → Prop
 | some cells => vTk X d K e S ti id off cells (X.mv d)
 | none => False
def vLd (X : Fx) (d : Nat) (K : Env → Store → Prop) (e : Env) (S : Store) : PV → Option TI → Prop
 | .ip cells off, some ti => vPutV X d K e S (pload ti cells off)
 | .np cells, some ti => vPutV X d K e S (pload ti cells 0)
 | .ref id off, some ti => vLdR X d K e S ti id off (S id)
 | _, _ => False
def vMvN (C : Ctx) (X : Fx) (d : Nat) (K : Env → Store → Prop) (e : Env) (S : Store) : Bool → PV → Prop
 | false, v => d < X.n ∧ K (e.put d v) S
 | true, .sl .tail sz [] => d < X.n ∧ ∀ id, S id = none → K (e.put d (.arr .tail id 0 0 sz)) (S.set id (some []))
 | true, _ => False
def vAl (X : Fx) (d : Nat) (K : Env → Store → Prop) (e : Env) (S : Store) : Bool → Option TI → Prop
 | false, some ti => d < X.n ∧ K (e.put d (.fresh ti.size)) S
 | true, some ti => d < X.n ∧ ∀ id, S id = none → K (e.put d (.ref id 0)) (S.set id (some (ti.zero.map PV.opn)))
 | _, none => False
def vBx (X : Fx) (d : Nat) (K : Env → Store → Prop) (e : Env) (S : Store) (m : Bool) : Bool → Option (List PV) → Prop
 | false, some cs => d < X.n ∧ K (e.put d (if m = true then .np cs else .ip cs 0)) S
 | true, some cs => d < X.n ∧ ∀ id, S id = none → K (e.put d (.ref id 0)) (S.set id (some (cs.map PV.bare)))
 | _, none => False
def vKp (X : Fx) (s : Nat) (K : Env → Store → Prop) (e : Env) (S : Store) (id : Nat) (cells : List PV) (off : Nat) (cs zs : List PV) : Bool → Bool → Prop
 | true, true => if s < X.n then K (e.put s (e s).bare) (S.set id (some (psplice cells off [e s]))) else K e (S.set id (some (psplice cells off (openN zs cs))))
 | true, false => K e (S.set id (some (psplice cells off (openN zs cs))))
 | _, _ => K e (S.set id (some (psplice cells off (cs.map PV.bare))))
def vStR (X : Fx) (x : Operand) (K : Env → Store → Prop) (e : Env) (S : Store) (ti : TI) (cs : List PV) (id off : Nat) : Option (List PV) → Prop
 | some cells => (cs.length = ti.size ∧ off + cs.length ≤ cells.length) ∧ vKeep X x K e S id cells off cs ti.zero
 | none => False
def vSt (X : Fx) (x : Operand) (s : Nat) (K : Env → Store → Prop) (e : Env) (S : Store) : Option TI → PV → Option (List PV) → Prop
 | some ti, .fresh n, some cs => (cs.length = n ∧ ti.size = n ∧ s < X.n) ∧ K (e.put s (if X.mv s = true then .np cs else .ip cs 0)) S
 | some ti, .ref id off, some cs => vStR X x K e S ti cs id off (S id)
 | _, _, _ => False
def vAp (X : Fx) (d s : Nat) (K : Env → Store → Prop) (e : Env) (S : Store) : Option (Nat × List (List PV) × List (List PV)) → Prop
 | some (sz, rows, more) => (d < X.n ∧ s < X.n) ∧ K ((e.put s (e s).bare).put d (.sl .tail sz (rows ++ more))) S
 | none => False
def vApB (C : Ctx) (X : Fx) (d s : Nat) (ts : List TypeId) (K : Env → Store → Prop) (e : Env) (S : Store) : Bool → PV → PV → Prop
 | false, p, v => vAp X d s K e S (pappend C ts p v)
 | true, p, v => vAppArr C X s ts v d K e S p
def vApC (X : Fx) (d s : Nat) (K : Env → Store → Prop) (e : Env) (S : Store) (id len sz : Nat) : Option (List PV) → Option (Nat × List (List PV) × List (List PV)) → Prop
 | some cells, some (_, _, more) => (d < X.n ∧ s < X.n ∧ cells.length = len * sz) ∧ ∀ id', (S.set id none) id' = none → K ((e.put s (e s).bare).put d (.arr .tail id' 0 (len + more.length) sz)) ((S.set id none).set id' (some (cells.map PV.bare ++ bareAll more)))
 | _, _ => False
def vApD (X : Fx) (d s : Nat) (K : Env → Store → Prop) (e : Env) (S : Store) (sz : Nat) : Option (Nat × List (List PV) × List (List PV)) → Prop
 | some (_, _, more) => (d < X.n ∧ s < X.n) ∧ ∀ id', S id' = none → K ((e.put s (e s).bare).put d (.arr .tail id' 0 more.length sz)) (S.set id' (some (bareAll more)))
 | none => False
def vAp0 (X : Fx) (d : Nat) (K : Env → Store → Prop) (e : Env) (S : Store) : Option (Nat × List (List PV) × List (List PV)) → Prop
 | some (sz, rows, more) => d < X.n ∧ K (e.put d (.sl .tail sz (rows ++ more))) S
 | none => False
def vCl (C : Ctx) (X : Fx) (d : Nat) (f : FuncId) (xs : List Operand) (ts : List TypeId) (K : Env → Store → Prop) (e : Env) (S : Store) : Bool → Prop
 | false => d < X.n ∧ PCalls C.P f (cargs C false xs ts e) S (retK K e (some d))
 | true => (d < X.n ∧ apart xs = true) ∧ PCalls C.P f (cargs C true xs ts e) S (retK K (afterCall true xs e) (some d))
def vCondK (C : Ctx) (X : Fx) (x y : Code) (Q : Post) (e : Env) (S : Store) : PV → Prop
 | .bool true => vwp C X x Q e S
 | .bool false => vwp C X y Q e S
 | _ => False
def gnth : List Oper → Nat → Option Nat
 | [], _ => none
 | o :: _, 0 => o.dst
 | _ :: os, j + 1 => gnth os j
def gval (all : List Oper) (j : Nat) (e : Env) : PV := match gnth all j with | some d => e d | none => .undef
def vSkip (C : Ctx) (X : Fx) (all : List Oper) (K : Env → Store → Prop) (d : Option Nat) (os : List Oper) (e : Env) (S : Store) : Prop := if dstOk X d then vops C X all K os (e.putO d (.tup [])) S else False
def vopsG (C : Ctx) (X : Fx) (all : List Oper) (K : Env → Store → Prop) (o : Oper) (os : List Oper) (e : Env) (S : Store) : Bool → PV → Prop
 | b, .bool q => if q == b then vop C X o (vops C X all K os) e S else vSkip C X all K o.dst os e S
 | _, .tup [] => vSkip C X all K o.dst os e S
 | _, _ => False

theorem gnth_eq : ∀ (all : List Oper) (j : Nat), gnth all j = (all[j]?).bind (·.dst)
 | [], j => by simp [gnth]
 | o :: os, 0 => by simp [gnth]
 | o :: os, j + 1 => by simp [gnth, gnth_eq os j]

/-! ### code -/
theorem x_skip : vwp C X .skip Q e S = Q .normal e S := rfl
theorem x_region {l : List Oper} : vwp C X (.region i l.toArray false) Q e S = vops C X l (Q .normal) l e S := rfl
theorem x_seq {a b : Code} : vwp C X (.seq a b) Q e S = vwp C X a (thenK (vwp C X b Q) Q) e S := rfl
theorem x_block {c : Code} : vwp C X (.block i c) Q e S = vwp C X c (blockK i Q) e S := rfl
theorem x_exit : vwp C X (.exit i) Q e S = Q (.exit i) e S := rfl
theorem x_ret : vwp C X .ret Q e S = Q .ret e S := rfl
theorem x_cond {a b : Code} : vwp C X (.cond x a b) Q e S = vCondK C X a b Q e S (ev x e) := by
 simp only [vwp]
 unfold vCondK
 rfl
theorem x_cond_t {a b : Code} : vCondK C X a b Q e S (.bool true) = vwp C X a Q e S := rfl
theorem x_cond_f {a b : Code} : vCondK C X a b Q e S (.bool false) = vwp C X b Q e S := rfl
theorem vwp_draw {ops : Array Oper} (h : drawOk X ops.toList = true) (hq : vopsQ C X ops.toList (Q .normal) ops.toList e S) : vwp C X (.region i ops true) Q e S := vdraw_of h hq
theorem vwp_tail {ops : Array Oper} (m : Nat) (hok : drawOk X (ops.toList.take m) = true) (ht : tailOk (ops.toList.take m) (ops.toList.drop m) = true) (h : vopsQ C X (ops.toList.take m) (tailK C X (Q .normal) (ops.toList.drop m)) (ops.toList.take m) e S) : vwp C X (.region i ops true) Q e S := vdraw_of_tail m hok ht h
theorem x_tailK_n : tailK C X K [] e S = K e S := rfl
theorem x_tailK_c {o : Oper} : tailK C X K (o :: os) e S = vop C X o (tailK C X K os) e S := rfl
/-- What follows two ways is walked once. -/
theorem mid_cond {a b : Code} {W : Env → Store → Prop} (M : Env → Store → Prop) (hW : ∀ e S, M e S → W e S) (h : ∀ W' : Env → Store → Prop, (∀ e S, M e S → W' e S) → vCondK C X a b (thenK W' Q) e S v) : vCondK C X a b (thenK W Q) e S v := h W hW
theorem x_then_n {W : Env → Store → Prop} : thenK W Q .normal e S = W e S := rfl
theorem x_then_e {W : Env → Store → Prop} : thenK W Q (.exit i) e S = Q (.exit i) e S := rfl
theorem x_then_r {W : Env → Store → Prop} : thenK W Q .ret e S = Q .ret e S := rfl
theorem x_blk_n : blockK i Q .normal e S = Q .normal e S := rfl
theorem x_blk_e : blockK i Q (.exit j) e S = if j = i then Q .normal e S else Q (.exit j) e S := rfl
theorem x_blk_r : blockK i Q .ret e S = Q .ret e S := rfl
theorem x_loop_e {I : Env → Store → Prop} {m : Env → Store → Nat} : loopK I m n Q (.exit j) e S = Q (.exit j) e S := rfl
theorem x_loop_r {I : Env → Store → Prop} {m : Env → Store → Nat} : loopK I m n Q .ret e S = Q .ret e S := rfl

/-! ### lists of operations -/
theorem x_nil : vops C X all K [] e S = K e S := rfl
theorem x_cons {dd : Option Nat} {op : Op} : vops C X all K (⟨dd, op, ty, p, af, none⟩ :: os) e S = vop C X ⟨dd, op, ty, p, af, none⟩ (vops C X all K os) e S := rfl
theorem x_cons_g {dd : Option Nat} {op : Op} {b : Bool} : vops C X all K (⟨dd, op, ty, p, af, some (j, b)⟩ :: os) e S = vopsG C X all K ⟨dd, op, ty, p, af, some (j, b)⟩ os e S b (gval all j e) := by
 rw [vops]
 simp only [vguard, gval, gnth_eq]
 cases hd : (all[j]?).bind (·.dst) with
 | none => rfl
 | some d' =>
  dsimp only
  cases e d' with
  | bool q => cases q <;> cases b <;> rfl
  | tup vs => cases vs <;> rfl
  | _ => rfl
theorem x_g_t {o : Oper} {q b : Bool} (h : (q == b) = true) : vopsG C X all K o os e S b (.bool q) = vop C X o (vops C X all K os) e S := by
 cases q <;> cases b <;> first | rfl | cases h
theorem x_g_f {o : Oper} {q b : Bool} (h : (q == b) = false) : vopsG C X all K o os e S b (.bool q) = vSkip C X all K o.dst os e S := by
 cases q <;> cases b <;> first | rfl | cases h
theorem x_g_tf {o : Oper} : vopsG C X all K o os e S true (.bool false) = vSkip C X all K o.dst os e S := rfl
theorem x_g_ft {o : Oper} : vopsG C X all K o os e S false (.bool true) = vSkip C X all K o.dst os e S := rfl
theorem x_g_u {o : Oper} {b : Bool} : vopsG C X all K o os e S b (.tup []) = vSkip C X all K o.dst os e S := by cases b <;> rfl
theorem x_vskip : vSkip C X all K (some d) os e S = (d < X.n ∧ vops C X all K os (e.put d (.tup [])) S) := by
 simp only [vSkip, dstOk, Env.putO]
 by_cases h : d < X.n <;> simp [h]

/-! ### operations -/
theorem putV_eq {v : Option PV} : vPut X (some d) v K e S = vPutV X d K e S v := by
 unfold vPut vPutV
 cases v with
 | none => rfl
 | some v => by_cases h : d < X.n <;> simp [h]
theorem x_putV : vPutV X d K e S (some v) = (d < X.n ∧ K (e.put d v) S) := rfl
theorem ite_and {a : Prop} [Decidable a] {b : Prop} : (if a then b else False) = (a ∧ b) := by by_cases h : a <;> simp [h]

theorem x_move_t : vop C X ⟨some d, .move (.tmp s), ty, p, af, gd⟩ K e S = vMv X d s K e S (X.mv d) := by
 simp only [vop, vMove]
 cases X.mv d <;> simp [vMv, ite_and]
theorem x_assign_t : vop C X ⟨some d, .assign (.tmp s), ty, p, af, gd⟩ K e S = vMv X d s K e S (X.mv d) := by
 simp only [vop, vMove]
 cases X.mv d <;> simp [vMv, ite_and]
theorem vMove_c {o : Oper} {c : Value} (hd : o.dst = some d) (ho : pop C o e = some (opd C o.type (.const c) e)) (hc : c ≠ .slice none 0 0) : vMove C X o (.const c) K e S = (d < X.n ∧ K (e.put d (opd C o.type (.const c) e)) S) := by
 unfold vMove
 rw [hd]
 split
 ·rename_i h; cases h
 ·rename_i h; injection h with h; exact absurd h hc
 ·rw [ho, putV_eq]; rfl
theorem x_move_c {c : Value} (hc : c ≠ .slice none 0 0) : vop C X ⟨some d, .move (.const c), ty, p, af, gd⟩ K e S = (d < X.n ∧ K (e.put d (opd C ty (.const c) e)) S) := vMove_c (o := ⟨some d, .move (.const c), ty, p, af, gd⟩) rfl rfl hc
theorem x_assign_c {c : Value} (hc : c ≠ .slice none 0 0) : vop C X ⟨some d, .assign (.const c), ty, p, af, gd⟩ K e S = (d < X.n ∧ K (e.put d (opd C ty (.const c) e)) S) := vMove_c (o := ⟨some d, .assign (.const c), ty, p, af, gd⟩) rfl rfl hc
theorem vMove_n {o : Oper} (hd : o.dst = some d) (ho : pop C o e = some (nilOf C o.type)) : vMove C X o (.const (.slice none 0 0)) K e S = vMvN C X d K e S (X.vars d) (nilOf C o.type) := by
 unfold vMove
 rw [hd]
 cases hm : X.vars d with
 | false => simp only [hm, Bool.false_eq_true, if_false, ho, putV_eq]; rfl
 | true =>
  simp only [hm, if_true]
  cases hn : nilOf C o.type with
  | sl f sz rows =>
   cases f <;> cases rows <;> first | rfl | (simp only [vMvN, ite_and])
  | _ => rfl
theorem x_assign_n : vop C X ⟨some d, .assign (.const (.slice none 0 0)), ty, p, af, gd⟩ K e S = vMvN C X d K e S (X.vars d) (nilOf C ty) := vMove_n (o := ⟨some d, .assign (.const (.slice none 0 0)), ty, p, af, gd⟩) rfl rfl
theorem x_mvn_f : vMvN C X d K e S false v = (d < X.n ∧ K (e.put d v) S) := by cases v <;> rfl
theorem x_mv_f : vMv X d s K e S false = (d < X.n ∧ K (e.put d (e s).bare) S) := rfl
theorem x_mv_t : vMv X d s K e S true = ((d < X.n ∧ s < X.n ∧ s ≠ d) ∧ K ((e.put s (e s).bare).put d (e s)) S) := rfl

theorem x_pick {c : Operand} : vop C X ⟨some d, .pick c x y, ty, p, af, gd⟩ K e S = vPutV X d K e S (match ev c e with | .bool t => some (if t then (ev x e).bare else (ev y e).bare) | _ => none) := by
 simp only [vop, putV_eq, pop]
 rfl
theorem x_nilCheck : vop C X ⟨some d, .nilCheck x, ty, p, af, gd⟩ K e S = vPutV X d K e S (ploc (fun q => q) (ev x e)) := by
 show _ = vPutV X d K e S (ploc _root_.id (ev x e))
 simp only [vop, putV_eq, pop]
theorem x_fieldAddr : vop C X ⟨some d, .fieldAddr t x f, ty, p, af, gd⟩ K e S = vPutV X d K e S (pop C ⟨some d, .fieldAddr t x f, ty, p, af, gd⟩ e) := by
 simp only [vop, putV_eq]
theorem x_indexAddr : vop C X ⟨some d, .indexAddr t x y, ty, p, af, gd⟩ K e S = vPutV X d K e S (pop C ⟨some d, .indexAddr t x y, ty, p, af, gd⟩ e) := by
 simp only [vop, putV_eq]
variable {op : BinOp} {ti : Option TI}
theorem x_binOp : vop C X ⟨some d, .binOp op t x y i, ty, p, af, gd⟩ K e S = vBnV C X d op (C.Z t) (C.T t) (mapS C.P t) (ev x e) y K e S (pop C ⟨some d, .binOp op t x y i, ty, p, af, gd⟩ e) := by
 simp only [vop, vBin]
 cases pop C ⟨some d, .binOp op t x y i, ty, p, af, gd⟩ e with
 | none =>
  show _ = vSmM C X d op (C.Z t) (C.T t) (mapS C.P t) K e S (ev x e) y
  generalize ev x e = u
  cases u <;> first | rfl | (cases y <;> first | rfl | (rename_i c; cases c <;> first | rfl | (rename_i q; cases q <;> rfl)))
 | some v => simp only [putV_eq]; rfl
variable {z : Bool}
variable {mz : Option Value}
theorem x_bnv : vBnV C X d op z ti mz u y K e S (some v) = (d < X.n ∧ K (e.put d v) S) := rfl
theorem x_bnv_n : vBnV C X d op z ti mz u y K e S none = vSmM C X d op z ti mz K e S u y := rfl
theorem x_smM_sl {fl : Fl} {rows : List (List PV)} : vSmM C X d op z ti mz K e S (.sl fl sz rows) y = vSame C X op z ti (.sl fl sz rows) y (some d) K e S := rfl
theorem x_smM_me {v : Value} : vSmM C X d .eql z ti (some v) K e S (.mref id) (.const (.map none)) = (d < X.n ∧ K (e.put d (.bool false)) S) := rfl
theorem x_smM_ne {v : Value} : vSmM C X d .eql z ti (some v) K e S .nilm (.const (.map none)) = (d < X.n ∧ K (e.put d (.bool true)) S) := rfl
theorem vSmM_congr {e' : Env} {z z' : Bool} {a b : Option TI} {mz mz' : Option Value} {u u' : PV} (h : e = e') (hz : z = z') (h1 : a = b) (h2 : mz = mz') (h3 : u = u') : vSmM C X d op z a mz K e S u y = vSmM C X d op z' b mz' K e' S u' y := by rw [h, hz, h1, h2, h3]
theorem x_same_e {el q r : Nat} {zs : List PV} {fl : Fl} {rows : List (List PV)} : vSame C X .eql z (some ⟨.slice el, q, r, zs⟩) (.sl fl sz rows) (.const (.slice none 0 0)) (some d) K e S = (d < X.n ∧ ∀ b : Bool, (b = true → rows = []) → K (e.put d (.bool b)) S) := by
 simp only [vSame, ite_and]
def vNpV (X : Fx) (d : Nat) (K : Env → Store → Prop) (e : Env) (S : Store) (ng z : Bool) (c : List PV) : PV → Prop
 | .np c' => (d < X.n ∧ z = true ∧ c ≠ [] ∧ c' ≠ []) ∧ ∀ b : Bool, (b = true → Alike (.np c) (.np c')) → K (e.put d (.bool (b != ng))) S
 | _ => False
def vNqV (X : Fx) (d : Nat) (K : Env → Store → Prop) (e : Env) (S : Store) (ng z : Bool) (q r : Nat) (c : List PV) : PV → Prop
 | .nq q' r' c' => (d < X.n ∧ z = true ∧ c ≠ [] ∧ c' ≠ []) ∧ K (e.put d (.bool ((decide (q = q' ∧ r = r')) != ng))) S
 | _ => False
theorem vNqV_congr {c : List PV} {ng : Bool} {q r : Nat} {e' : Env} {a b : PV} (h : e = e') (hv : a = b) : vNqV X d K e S ng z q r c a = vNqV X d K e' S ng z q r c b := by rw [h, hv]
theorem vNpV_congr {c : List PV} {ng : Bool} {e' : Env} {a b : PV} (h : e = e') (hv : a = b) : vNpV X d K e S ng z c a = vNpV X d K e' S ng z c b := by rw [h, hv]
theorem x_unOp {op : UnOp} : vop C X ⟨some d, .unOp op t x, ty, p, af, gd⟩ K e S = vPutV X d K e S (pun op (ev x e)) := by
 simp only [vop, putV_eq, pop]
theorem x_convert : vop C X ⟨some d, .convert i t x, ty, p, af, gd⟩ K e S = vPutV X d K e S (pop C ⟨some d, .convert i t x, ty, p, af, gd⟩ e) := by
 simp only [vop, putV_eq]
theorem x_extract : vop C X ⟨some d, .extract x i, ty, p, af, gd⟩ K e S = vPutV X d K e S (pop C ⟨some d, .extract x i, ty, p, af, gd⟩ e) := by
 simp only [vop, putV_eq]
def pbuN (f : List (Nat × PV)) : Option TI → Option PV
 | some ⟨.struct fs, _, _, z⟩ => (pfill (places fs) (nilsOf z) f).map .agg
 | _ => none
def vBu (X : Fx) (d : Nat) (K : Env → Store → Prop) (e : Env) (S : Store) : Bool → Option PV → Option PV → Prop
 | false, v, _ => vPutV X d K e S v
 | true, _, v => vPutV X d K e S v
theorem x_build {ps : Array (Nat × Operand)} : vop C X ⟨some d, .build t ps, ty, p, af, gd⟩ K e S = vBu X d K e S (X.mv d) (pop C ⟨some d, .build t ps, ty, p, af, gd⟩ e) (pbuN (ps.toList.map fun p => (p.1, ev p.2 e)) (C.T t)) := by
 simp only [vop, vBuild]
 cases X.mv d with
 | false => simp only [Bool.false_eq_true, if_false, putV_eq]; rfl
 | true =>
  simp only [if_true, vBu]
  cases C.T t with
  | none => rfl
  | some ti =>
   obtain ⟨k, a, b, c⟩ := ti
   cases k <;> simp only [pbuN, putV_eq] <;> rfl
theorem x_bu_f {a b : Option PV} : vBu X d K e S false a b = vPutV X d K e S a := rfl
theorem vBu_congr {e' : Env} {m m' : Bool} {a b a' b' : Option PV} (h : e = e') (hm : m = m') (h1 : a = a') (h2 : b = b') : vBu X d K e S m a b = vBu X d K e' S m' a' b' := by rw [h, hm, h1, h2]
theorem x_pbuN {f : List (Nat × PV)} {fs : List (Nat × TypeId × Nat)} {q r : Nat} {z : List PV} : pbuN f (some ⟨.struct fs, q, r, z⟩) = (pfill (places fs) (nilsOf z) f).map .agg := rfl
theorem x_buildSlice {ps : Array (Nat × Operand)} : vop C X ⟨some d, .buildSlice t n ps, ty, p, af, gd⟩ K e S = vPutV X d K e S (pop C ⟨some d, .buildSlice t n ps, ty, p, af, gd⟩ e) := by
 simp only [vop, putV_eq]
theorem x_slice {lo hi mx : Option Operand} : vop C X ⟨some d, .slice t x lo hi mx, ty, p, af, gd⟩ K e S = vPutV X d K e S (pop C ⟨some d, .slice t x lo hi mx, ty, p, af, gd⟩ e) := by
 simp only [vop, putV_eq]
theorem x_makeFunc {fn : Fn} {xs cs : Array Operand} : vop C X ⟨some d, .makeFunc fn xs cs, ty, p, af, gd⟩ K e S = vPutV X d K e S (pop C ⟨some d, .makeFunc fn xs cs, ty, p, af, gd⟩ e) := by
 simp only [vop, putV_eq]
theorem x_load : vop C X ⟨some d, .load t x, ty, p, af, gd⟩ K e S = vLd X d K e S (ev x e) (C.T t) := by
 simp only [vop, vLoad]
 cases hx : ev x e <;> cases ht : C.T t <;> simp only [putV_eq, pop, hx, ht, vLd, vPutV]
 rename_i id off ti
 cases hS : S id with
 | none => rfl
 | some cells =>
  simp only [vLdR, vTake]
  cases hm : X.mv d with
  | false => simp only [Bool.false_eq_true, if_false, vTk, putV_eq]
  | true =>
   simp only [if_true, vTk]
   cases ti.k.agg <;> cases cells[off]? <;> simp [vTk2, ite_and]
theorem x_tk_f {ti : TI} {cells : List PV} : vTk X d K e S ti id off cells false = vPutV X d K e S (pload ti (cells.map PV.bare) off) := rfl
theorem o_sl {f : Fl} : PV.opn (.sl f sz []) = .sl .tail sz [] := rfl
theorem o_int {k : IntKind} {z : Int} : PV.opn (.int k z) = .int k z := rfl
theorem o_str {z : ByteArray} : PV.opn (.str z) = .str z := rfl
theorem x_isSl {f : Fl} {rows : List (List PV)} : isSl (.sl f sz rows) = true := rfl
theorem x_isSl_i {k : IntKind} {z : Int} : isSl (.int k z) = false := rfl
theorem x_isSl_a {z : List PV} : isSl (.agg z) = false := rfl
theorem x_isSl_p {z : List PV} : isSl (.ip z off) = false := rfl
theorem x_keep_t {cells cs zs : List PV} : vKeep X (.tmp s) K e S id cells off cs zs = vKp X s K e S id cells off cs zs (X.mv s) (isSl (e s)) := by
 simp only [vKeep]
 cases X.mv s <;> cases isSl (e s) <;> simp [vKp]
theorem x_nilsOf_n : nilsOf [] = [] := rfl
theorem x_nilsOf_c {z : PV} {zs : List PV} : nilsOf (z :: zs) = (match z with | .sl _ _ [] => PV.nils | v => v) :: nilsOf zs := rfl
theorem x_kp_f {cells cs zs : List PV} {b : Bool} : vKp X s K e S id cells off cs zs false b = K e (S.set id (some (psplice cells off (cs.map PV.bare)))) := rfl
theorem x_ld_ip {cells : List PV} {ti : TI} : vLd X d K e S (.ip cells off) (some ti) = vPutV X d K e S (pload ti cells off) := rfl
theorem x_ld_ref {ti : TI} : vLd X d K e S (.ref id off) (some ti) = vLdR X d K e S ti id off (S id) := rfl
theorem x_ldr {ti : TI} {cells : List PV} : vLdR X d K e S ti id off (some cells) = vTk X d K e S ti id off cells (X.mv d) := rfl
theorem x_alloc : vop C X ⟨some d, .alloc t, ty, p, af, gd⟩ K e S = vAl X d K e S (X.vars d) (C.T t) := by
 simp only [vop, vAlloc]
 cases C.T t with
 | none => cases hv : X.vars d <;> rfl
 | some ti => cases hv : X.vars d <;> simp [vAl, ite_and, hv]
theorem x_al_f {ti : TI} : vAl X d K e S false (some ti) = (d < X.n ∧ K (e.put d (.fresh ti.size)) S) := rfl
theorem x_al_t {ti : TI} : vAl X d K e S true (some ti) = (d < X.n ∧ ∀ id, S id = none → K (e.put d (.ref id 0)) (S.set id (some (ti.zero.map PV.opn)))) := rfl
theorem x_box : vop C X ⟨some d, .box t x, ty, p, af, gd⟩ K e S = vBx X d K e S (X.mv d) (X.vars d) (pcells (ev x e)) := by
 simp only [vop, vBox]
 cases hv : X.vars d <;> cases hm : X.mv d <;> cases hc : pcells (ev x e) <;> simp [vBx, putV_eq, pop, hc, vPutV, ite_and]
theorem x_bx_f {cs : List PV} : vBx X d K e S false false (some cs) = (d < X.n ∧ K (e.put d (.ip cs 0)) S) := rfl
theorem x_bx_t {cs : List PV} {m : Bool} : vBx X d K e S m true (some cs) = (d < X.n ∧ ∀ id, S id = none → K (e.put d (.ref id 0)) (S.set id (some (cs.map PV.bare)))) := rfl
theorem x_store : vop C X ⟨none, .store t (.tmp s) x, ty, p, af, gd⟩ K e S = vSt X x s K e S (C.T t) (e s) (pcells (opd C t x e)) := by
 simp only [vop, vStore]
 cases he : e s with
 | ref id off =>
  cases ht : C.T t <;> cases hc : pcells (opd C t x e) <;> simp [vSt, ite_and, he]
  cases hS : S id <;> simp [vStR, ite_and, hS]
 | _ => cases ht : C.T t <;> cases hc : pcells (opd C t x e) <;> simp [vSt, ite_and, he]
theorem x_st_f {ti : TI} {cs : List PV} : vSt X x s K e S (some ti) (.fresh n) (some cs) = ((cs.length = n ∧ ti.size = n ∧ s < X.n) ∧ K (e.put s (if X.mv s = true then .np cs else .ip cs 0)) S) := rfl
theorem x_st_r {ti : TI} {cs : List PV} : vSt X x s K e S (some ti) (.ref id off) (some cs) = vStR X x K e S ti cs id off (S id) := rfl
theorem x_str {ti : TI} {cs cells : List PV} : vStR X x K e S ti cs id off (some cells) = ((cs.length = ti.size ∧ off + cs.length ≤ cells.length) ∧ vKeep X x K e S id cells off cs ti.zero) := rfl
theorem x_append {ts : Array TypeId} : vop C X ⟨some d, .call ⟨.builtin .append, #[.tmp s, x], ts⟩, ty, p, af, gd⟩ K e S = vApB C X d s ts.toList K e S (X.vars d) (e s) (vw S (ev x e)) := by
 simp only [vop, vCall, vAppend]
 cases X.vars d with
 | true => rfl
 | false =>
  simp only [Bool.false_eq_true, if_false, vApB]
  cases pappend C ts.toList (e s) (vw S (ev x e)) with
  | none => rfl
  | some q => obtain ⟨a, b, c⟩ := q; simp [vAp, ite_and]
theorem x_apB_f {ts : List TypeId} : vApB C X d s ts K e S false u v = vAp X d s K e S (pappend C ts u v) := rfl
theorem vApB_congr {ts : List TypeId} {e' : Env} {a b : Bool} {u' v' : PV} (h : e = e') (h1 : a = b) (h2 : u = u') (h3 : v = v') : vApB C X d s ts K e S a u v = vApB C X d s ts K e' S b u' v' := by rw [h, h1, h2, h3]
theorem vApC_congr {len : Nat} {e' : Env} {q r : Option (List PV)} {q' r' : Option (Nat × List (List PV) × List (List PV))} (h : e = e') (h1 : q = r) (h2 : q' = r') : vApC X d s K e S id len sz q q' = vApC X d s K e' S id len sz r r' := by rw [h, h1, h2]
theorem vApD_congr {e' : Env} {q' r' : Option (Nat × List (List PV) × List (List PV))} (h : e = e') (h2 : q' = r') : vApD X d s K e S sz q' = vApD X d s K e' S sz r' := by rw [h, h2]
theorem vMvN_congr {e' : Env} {a b : Bool} (h : e = e') (h1 : a = b) (h2 : u = v) : vMvN C X d K e S a u = vMvN C X d K e' S b v := by rw [h, h1, h2]
theorem x_vw_sl {f : Fl} {rows : List (List PV)} : vw S (.sl f sz rows) = .sl f sz rows := rfl
theorem x_vw_str {b : ByteArray} : vw S (.str b) = .str b := rfl
theorem x_ap {rows more : List (List PV)} : vAp X d s K e S (some (sz, rows, more)) = ((d < X.n ∧ s < X.n) ∧ K ((e.put s (e s).bare).put d (.sl .tail sz (rows ++ more))) S) := rfl
theorem x_ap_ite {q : Option (Nat × List (List PV) × List (List PV))} {c : Prop} [Decidable c] : vAp X d s K e S (if c then q else none) = (c ∧ vAp X d s K e S q) := by
 by_cases h : c <;> simp [h, vAp]
theorem x_len {x : Operand} {ts : Array TypeId} : vop C X ⟨some d, .call ⟨.builtin .len, #[x], ts⟩, ty, p, af, gd⟩ K e S = vLenO X (some d) K e S ((ts[0]?).bind (mapS C.P)) (pcall C .len ts [ev x e]) (ev x e) := by
 simp only [vop, vCall, pop]
 rfl
theorem x_lenO_sl {mz : Option Value} {q : Option PV} {fl : Fl} {rows : List (List PV)} : vLenO X (some d) K e S mz q (.sl fl sz rows) = vPutV X d K e S q := by
 show vPut X (some d) q K e S = _
 rw [putV_eq]
theorem x_lenO_str {mz : Option Value} {q : Option PV} {b : ByteArray} : vLenO X (some d) K e S mz q (.str b) = vPutV X d K e S q := by
 show vPut X (some d) q K e S = _
 rw [putV_eq]
def vLenM (X : Fx) (d : Nat) (K : Env → Store → Prop) (e : Env) (S : Store) : Option Value → Option (Nat × List (Nat × ByteArray) × List PV) → Prop
 | some _, some (_, ks, _) => d < X.n ∧ K (e.put d (.int .i64 ks.length)) S
 | _, _ => False
theorem x_lenO_m {mz : Option Value} {q : Option PV} : vLenO X (some d) K e S mz q (.mref id) = vLenM X d K e S mz (mapAt S id) := by
 unfold vLenO vLenM
 dsimp only
 cases mz <;> cases mapAt S id <;> rfl
theorem x_lenM {v : Value} {cl : Nat} {ks : List (Nat × ByteArray)} {vs : List PV} : vLenM X d K e S (some v) (some (cl, ks, vs)) = (d < X.n ∧ K (e.put d (.int .i64 ks.length)) S) := rfl
theorem vLenO_congr {e' : Env} {mz mz' : Option Value} {q q' : Option PV} {u u' : PV} (h : e = e') (h1 : mz = mz') (h2 : q = q') (h3 : u = u') : vLenO X (some d) K e S mz q u = vLenO X (some d) K e' S mz' q' u' := by rw [h, h1, h2, h3]
theorem vLenM_congr {e' : Env} {mz mz' : Option Value} {m m' : Option (Nat × List (Nat × ByteArray) × List PV)} (h : e = e') (h1 : mz = mz') (h2 : m = m') : vLenM X d K e S mz m = vLenM X d K e' S mz' m' := by rw [h, h1, h2]
def vDlM (K : Env → Store → Prop) (e : Env) (S : Store) (id : Nat) (k : ByteArray) : Option Value → Option (Nat × List (Nat × ByteArray) × List PV) → Prop
 | some _, some (cl, ks, vs) => K e (S.set id (some [delM k cl ks vs]))
 | _, _ => False
theorem x_delete {x y : Operand} {ts : Array TypeId} : vop C X ⟨none, .call ⟨.builtin .delete, #[x, y], ts⟩, ty, p, af, gd⟩ K e S = vDlO K e S none ((ts[0]?).bind (mapS C.P)) (ev x e) (ev y e) := by
 simp only [vop, vCall]
theorem x_dlO {mz : Option Value} {k : ByteArray} : vDlO K e S none mz (.mref id) (.str k) = vDlM K e S id k mz (mapAt S id) := by
 unfold vDlO vDlM
 dsimp only
 cases mz <;> cases mapAt S id <;> rfl
theorem x_dlM {v : Value} {k : ByteArray} {cl : Nat} {ks : List (Nat × ByteArray)} {vs : List PV} : vDlM K e S id k (some v) (some (cl, ks, vs)) = K e (S.set id (some [delM k cl ks vs])) := rfl
theorem vDlO_congr {e' : Env} {mz mz' : Option Value} {q q' u u' : PV} (h : e = e') (h1 : mz = mz') (h2 : q = q') (h3 : u = u') : vDlO K e S none mz q u = vDlO K e' S none mz' q' u' := by rw [h, h1, h2, h3]
theorem vDlM_congr {e' : Env} {k : ByteArray} {mz mz' : Option Value} {m m' : Option (Nat × List (Nat × ByteArray) × List PV)} (h : e = e') (h1 : mz = mz') (h2 : m = m') : vDlM K e S id k mz m = vDlM K e' S id k mz' m' := by rw [h, h1, h2]
theorem mapAt_set {cl : Nat} {ks : List (Nat × ByteArray)} {vs : List PV} : mapAt (S.set id (some [.mcon cl ks vs])) id = some (cl, ks, vs) := by simp [mapAt, Store.set]
theorem mapAt_ne {j : Nat} {c : Option (List PV)} (h : j ≠ id) : mapAt (S.set id c) j = mapAt S j := by simp [mapAt, Store.set, h]
theorem x_max {xs : Array Operand} {ts : Array TypeId} : vop C X ⟨some d, .call ⟨.builtin .max, xs, ts⟩, ty, p, af, gd⟩ K e S = vPutV X d K e S (pcall C .max ts (xs.toList.map (ev · e))) := by
 simp only [vop, vCall, putV_eq, pop]
theorem x_call {xs : Array Operand} {ts : Array TypeId} : vop C X ⟨some d, .call ⟨.value (.func f), xs, ts⟩, ty, p, af, gd⟩ K e S = vCl C X d f xs.toList ts.toList K e S (X.mv d) := by
 simp only [vop, vCall, vCallF, mvd, dstOk]
 by_cases hv : X.mv d = true
 ·by_cases h : d < X.n <;> simp [vCl, h, ite_and, hv]
 ·have hv : X.mv d = false := by simpa using hv
  by_cases h : d < X.n <;> simp [vCl, h, afterCall, hv]
theorem x_cl_f {xs : List Operand} {ts : List TypeId} : vCl C X d f xs ts K e S false = (d < X.n ∧ PCalls C.P f (cargs C false xs ts e) S (retK K e (some d))) := rfl
theorem x_cl_t {xs : List Operand} {ts : List TypeId} : vCl C X d f xs ts K e S true = ((d < X.n ∧ apart xs = true) ∧ PCalls C.P f (cargs C true xs ts e) S (retK K (afterCall true xs e) (some d))) := rfl
def vClT (C : Ctx) (X : Fx) (d : Nat) (xs : List Operand) (ts : List TypeId) (K : Env → Store → Prop) (e : Env) (S : Store) : PV → Prop
 | .fn (.func f) [] [] => vCl C X d f xs ts K e S (X.mv d)
 | .fn (.func f) [] (b :: cs) => (d < X.n ∧ X.mv d = false) ∧ PCalls C.P f (cargs C false xs ts e ++ (b :: cs).map PV.bare) S (retK K e (some d))
 | _ => False
theorem x_callT {xs : Array Operand} {ts : Array TypeId} : vop C X ⟨some d, .call ⟨.value (.tmp s), xs, ts⟩, ty, p, af, gd⟩ K e S = vClT C X d xs.toList ts.toList K e S (e s) := by
 have key : ∀ f, vCallF C X ⟨some d, .call ⟨.value (.tmp s), xs, ts⟩, ty, p, af, gd⟩ ⟨.value (.tmp s), xs, ts⟩ f K e S = vCl C X d f xs.toList ts.toList K e S (X.mv d) := by
  intro f
  simp only [vCallF, mvd, dstOk]
  by_cases hv : X.mv d = true
  ·by_cases h : d < X.n <;> simp [vCl, h, ite_and, hv]
  ·have hv : X.mv d = false := by simpa using hv
   by_cases h : d < X.n <;> simp [vCl, h, afterCall, hv]
 simp only [vop, vCall]
 unfold vClT
 split
 ·rename_i f hes; rw [hes]; exact key f
 ·rename_i f b cs hes
  rw [hes]
  dsimp only
  by_cases hv : X.mv d = true
  ·simp [mvd, hv]
  ·have hv : X.mv d = false := by simpa using hv
   by_cases h : d < X.n <;> simp [mvd, dstOk, hv, h]
 ·rename_i hno hno2
  split
  ·rename_i f hes; exact absurd hes (hno f)
  ·rename_i f b cs hes; exact absurd hes (hno2 f b cs)
  ·rfl
theorem x_clTc {xs : List Operand} {ts : List TypeId} {b : PV} {cs : List PV} : vClT C X d xs ts K e S (.fn (.func f) [] (b :: cs)) = ((d < X.n ∧ X.mv d = false) ∧ PCalls C.P f (cargs C false xs ts e ++ (b :: cs).map PV.bare) S (retK K e (some d))) := rfl
theorem x_clT {xs : List Operand} {ts : List TypeId} : vClT C X d xs ts K e S (.fn (.func f) [] []) = vCl C X d f xs ts K e S (X.mv d) := rfl
theorem vClT_congr {xs : List Operand} {ts : List TypeId} {e' : Env} {u v' : PV} (h : e = e') (h1 : u = v') : vClT C X d xs ts K e S u = vClT C X d xs ts K e' S v' := by rw [h, h1]
def vRg (X : Fx) (d : Nat) (mz : Option Value) (K : Env → Store → Prop) (e : Env) (S : Store) : Option TI → PV → Prop
 | some ⟨.str, _, _, _⟩, .str s => d < X.n ∧ ∀ b : Nat, K (e.put d (.siter b s 0)) S
 | _, .mref id => vRgM X d K e S id mz (mapAt S id)
 | _, _ => False
theorem x_range {x : Operand} : vop C X ⟨some d, .range t x, ty, p, af, gd⟩ K e S = vRg X d (mapS C.P t) K e S (C.T t) (ev x e) := by
 simp only [vop, vRange, vRg]
 generalize C.T t = T
 generalize ev x e = u
 rcases T with _ | ⟨k, a, b, c⟩
 ·cases u <;> rfl
 ·cases k <;> cases u <;> rfl
theorem x_rg {z : List PV} {q r : Nat} {b : ByteArray} {mz : Option Value} : vRg X d mz K e S (some ⟨.str, q, r, z⟩) (.str b) = (d < X.n ∧ ∀ b' : Nat, K (e.put d (.siter b' b 0)) S) := rfl
theorem x_rgm {z : List PV} {q r : Nat} {mz : Option Value} : vRg X d mz K e S (some ⟨.other, q, r, z⟩) (.mref id) = vRgM X d K e S id mz (mapAt S id) := rfl
theorem x_rgM {v : Value} {cl : Nat} {ks : List (Nat × ByteArray)} {vs : List PV} : vRgM X d K e S id (some v) (some (cl, ks, vs)) = (d < X.n ∧ ∀ b : Nat, K (e.put d (.miter b id cl cl [])) S) := rfl
theorem vRg_congr {e' : Env} {mz mz' : Option Value} {a b : Option TI} {u v' : PV} (h : e = e') (h0 : mz = mz') (h1 : a = b) (h2 : u = v') : vRg X d mz K e S a u = vRg X d mz' K e' S b v' := by rw [h, h0, h1, h2]
theorem vRgM_congr {e' : Env} {mz mz' : Option Value} {m m' : Option (Nat × List (Nat × ByteArray) × List PV)} (h : e = e') (h0 : mz = mz') (h1 : m = m') : vRgM X d K e S id mz m = vRgM X d K e' S id mz' m' := by rw [h, h0, h1]
def vNxMV (X : Fx) (d s : Nat) (K : Env → Store → Prop) (e : Env) (S : Store) : PV → Prop
 | .miter b id since _ seen => vNxM X d s K e S b id since seen (mapAt S id)
 | _ => False
theorem x_nextM : vop C X ⟨some d, .next (.tmp s) false, ty, p, af, gd⟩ K e S = vNxMV X d s K e S (e s) := by
 simp only [vop, vNextM]
 unfold vNxMV
 cases e s <;> rfl
theorem x_nxMV {b since last : Nat} {seen : List Nat} : vNxMV X d s K e S (.miter b id since last seen) = vNxM X d s K e S b id since seen (mapAt S id) := rfl
theorem x_nxM {b since cl : Nat} {seen : List Nat} {ks : List (Nat × ByteArray)} {vs : List PV} : vNxM X d s K e S b id since seen (some (cl, ks, vs)) = ((d < X.n ∧ s < X.n ∧ d ≠ s) ∧ (since ≤ cl ∧ ∀ k ∈ ks, k.1 < since) ∧ ((ks.all fun k => seen.contains k.1) = true → K (e.put d (.tup [.bool false])) S) ∧
   ∀ (j st : Nat) (k : ByteArray) (v : PV), ks[j]? = some (st, k) → vs[j]? = some v → seen.contains st = false → K ((e.put s (.miter b id since cl (seen ++ [st]))).put d (.tup [.bool true, .str k, v])) S) := rfl
def vEnV (X : Fx) (d s : Nat) (K : Env → Store → Prop) (e : Env) (S : Store) : PV → Prop
 | .miter _ id _ last seen => vEnM X d s K e S last seen (mapAt S id)
 | _ => False
theorem x_entry : vop C X ⟨some d, .entry (.tmp s), ty, p, af, gd⟩ K e S = vEnV X d s K e S (e s) := by
 simp only [vop, vEntry]
 unfold vEnV
 cases e s <;> rfl
theorem x_enV {b since last : Nat} {seen : List Nat} : vEnV X d s K e S (.miter b id since last seen) = vEnM X d s K e S last seen (mapAt S id) := rfl
theorem en_mk {last cl : Nat} {seen : List Nat} {ks : List (Nat × ByteArray)} {vs : List PV} {j st : Nat} {k : ByteArray} {v : PV} (h : cl = last ∧ seen.getLast? = some st ∧ ks[j]? = some (st, k) ∧ vs[j]? = some v ∧ d < X.n ∧ s < X.n) (hn : (ks.map fun k => k.1).Nodup) (hK : K (e.put d (.tup [.str k, v])) S) : vEnM X d s K e S last seen (some (cl, ks, vs)) := ⟨j, st, k, v, h, hn, hK⟩
theorem vNxMV_congr {e' : Env} {u u' : PV} (h : e = e') (h1 : u = u') : vNxMV X d s K e S u = vNxMV X d s K e' S u' := by rw [h, h1]
theorem vEnV_congr {e' : Env} {u u' : PV} (h : e = e') (h1 : u = u') : vEnV X d s K e S u = vEnV X d s K e' S u' := by rw [h, h1]
theorem vNxM_congr {e' : Env} {b since : Nat} {seen : List Nat} {m m' : Option (Nat × List (Nat × ByteArray) × List PV)} (h : e = e') (h1 : m = m') : vNxM X d s K e S b id since seen m = vNxM X d s K e' S b id since seen m' := by rw [h, h1]
theorem vEnM_congr {e' : Env} {last : Nat} {seen : List Nat} {m m' : Option (Nat × List (Nat × ByteArray) × List PV)} (h : e = e') (h1 : m = m') : vEnM X d s K e S last seen m = vEnM X d s K e' S last seen m' := by rw [h, h1]
def vNx2 (X : Fx) (d s : Nat) (K : Env → Store → Prop) (e : Env) (S : Store) (b : Nat) (str : ByteArray) (pos : Nat) : Bool → Prop
 | true => K ((e.put s (.siter b str (pos + (Utf8.decode str pos).2))).put d (.tup [.bool true, .int .i64 pos, .int .i32 (Utf8.decode str pos).1])) S
 | false => K (e.put d (.tup [.bool false])) S
def vNx (X : Fx) (d s : Nat) (K : Env → Store → Prop) (e : Env) (S : Store) : PV → Prop
 | .siter b str pos => (d < X.n ∧ s < X.n ∧ d ≠ s) ∧ vNx2 X d s K e S b str pos (decide (pos < str.size))
 | _ => False
theorem x_next : vop C X ⟨some d, .next (.tmp s) true, ty, p, af, gd⟩ K e S = vNx X d s K e S (e s) := by
 simp only [vop, vNext]
 unfold vNx
 split
 ·rename_i b str pos hes
  rw [hes]
  unfold vNx2
  by_cases h : pos < str.size <;> simp [h]
 ·rename_i hno
  split
  ·rename_i b str pos hes; exact absurd hes (hno b str pos)
  ·rfl
theorem x_nx {b pos : Nat} {str : ByteArray} : vNx X d s K e S (.siter b str pos) = ((d < X.n ∧ s < X.n ∧ d ≠ s) ∧ vNx2 X d s K e S b str pos (decide (pos < str.size))) := rfl
theorem x_nx2t {b pos : Nat} {str : ByteArray} : vNx2 X d s K e S b str pos true = K ((e.put s (.siter b str (pos + (Utf8.decode str pos).2))).put d (.tup [.bool true, .int .i64 pos, .int .i32 (Utf8.decode str pos).1])) S := rfl
theorem x_nx2f {b pos : Nat} {str : ByteArray} : vNx2 X d s K e S b str pos false = K (e.put d (.tup [.bool false])) S := rfl
theorem vNx_congr {e' : Env} {u v' : PV} (h : e = e') (h1 : u = v') : vNx X d s K e S u = vNx X d s K e' S v' := by rw [h, h1]
theorem vNx2_congr {e' : Env} {b pos : Nat} {str : ByteArray} {u v' : Bool} (h : e = e') (h1 : u = v') : vNx2 X d s K e S b str pos u = vNx2 X d s K e' S b str pos v' := by rw [h, h1]
theorem x_makeSlice {l c : Operand} : vop C X ⟨some d, .makeSlice t l c, ty, p, af, gd⟩ K e S = vMkS C X (some d) K e S (ev l e) (ev c e) (C.T t) := by
 simp only [vop]
theorem x_mks {el q r : Nat} {z : List PV} {l c : PV} : vMkS C X (some d) K e S l c (some ⟨.slice el, q, r, z⟩) = vMkG X (some d) K e S (C.T el) l c := rfl
attribute [go_sem] capOf_one capOf_two capZ_one
theorem x_mkg {te : TI} {k1 k2 : IntKind} {m n : Int} : vMkG X (some d) K e S (some te) (.int k1 m) (.int k2 n) = ((m = 0 ∧ d < X.n ∧ 0 ≤ n ∧ te.bytes * n.toNat ≤ capOf te.bytes ∧ n ≤ capZ te.bytes) ∧ K (e.put d (.sl .tail te.size [])) S) := rfl
def vMkM (X : Fx) (d : Nat) (K : Env → Store → Prop) (e : Env) (S : Store) : Bool → Prop
 | true => d < X.n ∧ ∀ id, S id = none → K (e.put d (.mref id)) (S.set id (some [.mcon 0 [] []]))
 | false => d < X.n ∧ ∀ b : Nat, K (e.put d (.mapo b [])) S
theorem x_makeMap : vop C X ⟨some d, .makeMap t none, ty, p, af, gd⟩ K e S = vMkM X d K e S (X.vars d) := by
 simp only [vop, vMakeMap]
 cases X.vars d <;> simp [vMkM]
theorem x_mkM_t : vMkM X d K e S true = (d < X.n ∧ ∀ id, S id = none → K (e.put d (.mref id)) (S.set id (some [.mcon 0 [] []]))) := rfl
theorem x_mkM_f : vMkM X d K e S false = (d < X.n ∧ ∀ b : Nat, K (e.put d (.mapo b [])) S) := rfl
theorem vMkM_congr {e' : Env} {b b' : Bool} (h : e = e') (h1 : b = b') : vMkM X d K e S b = vMkM X d K e' S b' := by rw [h, h1]
def vLk (X : Fx) (d : Nat) (ok : Bool) (K : Env → Store → Prop) (e : Env) (S : Store) : Option Value → PV → PV → Prop
 | some z, .mapr b, .str k => d < X.n ∧ vOwn X e b fun _ L => K (e.put d (lkV ok z (lookS k L))) S
 | z, .mref id, i => vLkO X ok K e S z i (some d) (mapAt S id)
 | z, .nilm, i => vLkO X ok K e S z i (some d) (some (0, [], []))
 | _, _, _ => False
theorem x_lookup {x y : Operand} {ok : Bool} : vop C X ⟨some d, .lookup t x y ok, ty, p, af, gd⟩ K e S = vLk X d ok K e S (mapS C.P t) (ev x e) (ev y e) := by
 simp only [vop, vLookup, vLk]
 generalize mapS C.P t = M
 generalize ev x e = u
 generalize ev y e = u2
 cases M with
 | none => cases u <;> rfl
 | some z => cases u <;> first | rfl | (cases u2 <;> rfl)
theorem x_lk_m {mz : Option Value} {i : PV} {ok : Bool} : vLk X d ok K e S mz (.mref id) i = vLkO X ok K e S mz i (some d) (mapAt S id) := by cases mz <;> rfl
theorem x_lkO {v : Value} {k : ByteArray} {ok : Bool} {cl : Nat} {ks : List (Nat × ByteArray)} {vs : List PV} : vLkO X ok K e S (some v) (.str k) (some d) (some (cl, ks, vs)) = (d < X.n ∧ K (e.put d (lkM ok (pvZ v) (lookM k ks vs))) S) := rfl
theorem vLkO_congr {e' : Env} {ok : Bool} {mz mz' : Option Value} {i i' : PV} {m m' : Option (Nat × List (Nat × ByteArray) × List PV)} (h : e = e') (h1 : mz = mz') (h2 : i = i') (h3 : m = m') : vLkO X ok K e S mz i (some d) m = vLkO X ok K e' S mz' i' (some d) m' := by rw [h, h1, h2, h3]
theorem x_lkM_f {z : PV} {o : Option PV} : lkM false z o = o.getD z := rfl
theorem x_lk {z : Value} {b : Nat} {k : ByteArray} {ok : Bool} : vLk X d ok K e S (some z) (.mapr b) (.str k) = (d < X.n ∧ vOwn X e b fun _ L => K (e.put d (lkV ok z (lookS k L))) S) := rfl
theorem vLk_congr {e' : Env} {ok : Bool} {a b : Option Value} {u v' m n : PV} (h : e = e') (h1 : a = b) (h2 : u = v') (h3 : m = n) : vLk X d ok K e S a u m = vLk X d ok K e' S b v' n := by rw [h, h1, h2, h3]
def vMu (X : Fx) (K : Env → Store → Prop) (e : Env) (S : Store) (pv : PV) : Option Value → PV → PV → Option Value → Prop
 | some _, .mapr b, .str k, some u => vOwn X e b fun s L => K (e.put s (.mapo b (updS k u L))) S
 | z, .mref id, i, _ => vMuO X K e S id z i pv none (mapAt S id)
 | _, _, _, _ => False
theorem x_mapUpdate {x y z : Operand} : vop C X ⟨none, .mapUpdate t x y z, ty, p, af, gd⟩ K e S = vMu X K e S (ev z e) (mapS C.P t) (ev x e) (ev y e) (valOf (ev z e)) := by
 simp only [vop, vMapUpd, vMu]
 generalize mapS C.P t = M
 generalize ev x e = u
 generalize ev y e = u2
 generalize valOf (ev z e) = u3
 cases M with
 | none => cases u <;> rfl
 | some z => cases u <;> first | rfl | (cases u2 <;> first | rfl | (cases u3 <;> rfl))
theorem x_mu_m {pv i : PV} {mz u : Option Value} : vMu X K e S pv mz (.mref id) i u = vMuO X K e S id mz i pv none (mapAt S id) := by cases mz <;> rfl
theorem x_muO {v : Value} {k : ByteArray} {pv : PV} {cl : Nat} {ks : List (Nat × ByteArray)} {vs : List PV} : vMuO X K e S id (some v) (.str k) pv none (some (cl, ks, vs)) = K e (S.set id (some [updM k pv.bare cl ks vs])) := rfl
theorem vMuO_congr {e' : Env} {mz mz' : Option Value} {i i' pv pv' : PV} {m m' : Option (Nat × List (Nat × ByteArray) × List PV)} (h : e = e') (h1 : mz = mz') (h2 : i = i') (h3 : m = m') (h4 : pv = pv') : vMuO X K e S id mz i pv none m = vMuO X K e' S id mz' i' pv' none m' := by rw [h, h1, h2, h3, h4]
theorem x_mu {z u : Value} {b : Nat} {k : ByteArray} {pv : PV} : vMu X K e S pv (some z) (.mapr b) (.str k) (some u) = (vOwn X e b fun s L => K (e.put s (.mapo b (updS k u L))) S) := rfl
theorem vMu_congr {e' : Env} {a b c q : Option Value} {u v' m n : PV} (h : e = e') (h1 : a = b) (h2 : u = v') (h3 : m = n) (h4 : c = q) {pv pv' : PV} (h5 : pv = pv') : vMu X K e S pv a u m c = vMu X K e' S pv' b v' n q := by rw [h, h1, h2, h3, h4, h5]
theorem vOwn_congr {e' : Env} {b : Nat} {F : Nat → List (ByteArray × Value) → Prop} (h : e = e') : vOwn X e b F = vOwn X e' b F := by rw [h]
theorem vown {b : Nat} {F : Nat → List (ByteArray × Value) → Prop} (t : Nat) (L : List (ByteArray × Value)) (ht : t < X.n) (he : e t = .mapo b L) (hF : F t L) : vOwn X e b F := ⟨t, L, ht, he, hF⟩
theorem x_lkVf {z : Value} {o : Option Value} : lkV false z o = ofVal (o.getD z) := rfl
theorem x_ofVal_b {b : Bool} : ofVal (.bool b) = .bool b := rfl
theorem x_valOf_b {b : Bool} : valOf (.bool b) = some (.bool b) := rfl
theorem b_mapo {b : Nat} {L : List (ByteArray × Value)} : PV.bare (.mapo b L) = .mapr b := rfl
theorem b_mref : PV.bare (.mref id) = .mref id := rfl
theorem b_nilm : PV.bare .nilm = .nilm := rfl
theorem x_pc_mref : pcells (.mref id) = some [.mref id] := rfl
theorem o_nilm : PV.opn .nilm = .nilm := rfl
theorem x_isSl_mref : isSl (.mref id) = false := rfl
theorem x_retK : retK K e (some d) v S = K (e.put d v) S := rfl
theorem x_cargs_nil {mv : Bool} {ts : List TypeId} : cargs C mv [] ts e = [] := by cases ts <;> rfl
theorem x_cargs_cons {mv : Bool} {xs : List Operand} {ts : List TypeId} : cargs C mv (x :: xs) (t :: ts) e = carg C mv t x e :: cargs C mv xs ts e := rfl
theorem x_carg_f : carg C false t x e = opd C t x e := by cases x <;> rfl
theorem x_carg_t : carg C true t (.tmp s) e = e s := rfl
theorem x_opd_t : opd C t (.tmp s) e = (e s).bare := rfl
theorem x_opd_nil : opd C t (.const (.slice none 0 0)) e = nilOf C t := rfl
theorem x_opd_int {k : IntKind} {m : Int} : opd C t (.const (.int k m)) e = .int k m := rfl
theorem x_opd_bool {b : Bool} : opd C t (.const (.bool b)) e = .bool b := rfl
theorem x_opd_str {b : ByteArray} : opd C t (.const (.string b)) e = .str b := rfl
theorem x_opd_nilp : opd C t (.const (.pointer none)) e = .nilp := rfl
theorem x_opd_func {c : FuncId} : opd C t (.func c) e = .fn (.func c) [] [] := rfl
theorem x_ev_t : ev (.tmp s) e = e s := rfl
theorem x_ev_int {k : IntKind} {m : Int} : ev (.const (.int k m)) e = .int k m := rfl
theorem x_ev_bool {b : Bool} : ev (.const (.bool b)) e = .bool b := rfl
theorem x_ev_str {b : ByteArray} : ev (.const (.string b)) e = .str b := rfl
theorem x_ev_nilp : ev (.const (.pointer none)) e = .nilp := rfl
theorem x_ev_nil : ev (.const (.slice none 0 0)) e = .sl .no 0 [] := rfl
theorem x_put : Env.put e d v t = if t = d then v else e t := rfl
theorem x_arg_0 {l : List PV} : argEnv (v :: l) 0 = v := rfl
theorem x_arg_s {l : List PV} : argEnv (v :: l) (t + 1) = argEnv l t := rfl
theorem x_after {xs : List Operand} : afterCall true xs e t = if (argPos xs t).isSome then (e t).bare else e t := rfl

theorem b_bool {b : Bool} : PV.bare (.bool b) = .bool b := rfl
theorem b_int {k : IntKind} {m : Int} : PV.bare (.int k m) = .int k m := rfl
theorem b_str {s : ByteArray} : PV.bare (.str s) = .str s := rfl
theorem b_nilp : PV.bare .nilp = .nilp := rfl
theorem b_ip {cs : List PV} : PV.bare (.ip cs off) = .ip cs off := rfl
theorem b_ref : PV.bare (.ref id off) = .ref id off := rfl
theorem b_sl {fl : Fl} {rows : List (List PV)} : PV.bare (.sl fl sz rows) = .sl .no sz rows := rfl
theorem b_agg {cs : List PV} : PV.bare (.agg cs) = .agg cs := rfl
theorem b_tup {cs : List PV} : PV.bare (.tup cs) = .tup cs := rfl
theorem b_fn {fn : Fn} {as bs : List PV} : PV.bare (.fn fn as bs) = .fn fn as bs := rfl
theorem b_np {cs : List PV} : PV.bare (.np cs) = .np cs := rfl
/-! ### the end of a function -/
theorem x_end {rs : List ResultVar} {W : PV → Store → Prop} : retPost C rs W .ret e S = (match presult C e S rs with | some v => ∃ S', (∀ id c, S' id = some c → S id = some c) ∧ W v S' | none => False) := rfl
theorem x_endn {rs : List ResultVar} {W : PV → Store → Prop} : retPost C rs W .normal e S = (match presult C e S rs with | some v => ∃ S', (∀ id c, S' id = some c → S id = some c) ∧ W v S' | none => False) := rfl
theorem x_res1 {r : ResultVar} : presult C e S [r] = presult1 C e S r := rfl
theorem x_res0 : presult C e S [] = some (.tup []) := rfl
theorem x_res2 {r q : ResultVar} {rs : List ResultVar} : presult C e S (r :: q :: rs) = (presults C e S (r :: q :: rs)).map .tup := rfl
theorem x_ress_n : presults C e S [] = some [] := rfl
theorem x_ress_c {r : ResultVar} {rs : List ResultVar} : presults C e S (r :: rs) = (match presult1 C e S r, presults C e S rs with | some v, some vs => some (v.bare :: vs) | _, _ => none) := rfl
theorem x_r1_t : presult1 C e S (.tmp t) = some (e t) := rfl
theorem x_r1_c : presult1 C e S (.cell i t) = (match C.T t with | some ti => (match e i with | .ip cells off => pload ti cells off | .ref id off => (match S id with | some cells => pload ti (cells.map PV.bare) off | none => none) | _ => none) | none => none) := rfl

/-! ### what operations answer -/
def pBin (C : Ctx) (t : TypeId) (op : BinOp) (x y : PV) (ti : Option TI) : Option PV → Option PV
 | some v => some v
 | none => (match ti, op with
   | some ⟨.ptr, _, _, _⟩, .eql => (peqp x y).map .bool
   | some ⟨.ptr, _, _, _⟩, .neq => (peqp x y).map fun b => .bool !b
   | some ⟨.bool, _, _, _⟩, .eql => (match x, y with | .bool a, .bool b => some (.bool (a == b)) | _, _ => none)
   | some ⟨.bool, _, _, _⟩, .neq => (match x, y with | .bool a, .bool b => some (.bool !(a == b)) | _, _ => none)
   | some ⟨.struct fs, _, _, _⟩, .eql => (peqS C t fs x y).map .bool
   | some ⟨.struct fs, _, _, _⟩, .neq => (peqS C t fs x y).map fun b => .bool !b
   | _, _ => none)
theorem x_p_bin {dd : Option Nat} {op : BinOp} : pop C ⟨dd, .binOp op t x y i, ty, p, af, gd⟩ e = pBin C t op (ev x e) (ev y e) (C.T t) (pbin op (ev x e) (ev y e)) := rfl
theorem x_bin_s {op : BinOp} {a b : PV} {ti : Option TI} : pBin C t op a b ti (some v) = some v := rfl
theorem x_bin_pe {a b : PV} {q r : Nat} {z : List PV} : pBin C t .eql a b (some ⟨.ptr, q, r, z⟩) none = (peqp a b).map .bool := rfl
theorem x_bin_pn {a b : PV} {q r : Nat} {z : List PV} : pBin C t .neq a b (some ⟨.ptr, q, r, z⟩) none = (peqp a b).map fun b => .bool !b := rfl
theorem x_bin_be {a b : Bool} {q r : Nat} {z : List PV} : pBin C t .eql (.bool a) (.bool b) (some ⟨.bool, q, r, z⟩) none = some (.bool (a == b)) := rfl
theorem x_bin_bn {a b : Bool} {q r : Nat} {z : List PV} : pBin C t .neq (.bool a) (.bool b) (some ⟨.bool, q, r, z⟩) none = some (.bool !(a == b)) := rfl
theorem x_bin_sl_e {a b : PV} {el q r : Nat} {z : List PV} : pBin C t .eql a b (some ⟨.slice el, q, r, z⟩) none = none := rfl
theorem x_bin_se {a b : PV} {fs : List (Nat × TypeId × Nat)} {q r : Nat} {z : List PV} : pBin C t .eql a b (some ⟨.struct fs, q, r, z⟩) none = (peqS C t fs a b).map .bool := rfl
theorem x_bin_sn {a b : PV} {fs : List (Nat × TypeId × Nat)} {q r : Nat} {z : List PV} : pBin C t .neq a b (some ⟨.struct fs, q, r, z⟩) none = (peqS C t fs a b).map fun b => .bool !b := rfl
theorem x_peqS {a b : List PV} {fs : List (Nat × TypeId × Nat)} (h : C.E t = true) : peqS C t fs (.agg a) (.agg b) = peqs C fs a b := by
 simp only [peqS, h]
theorem x_peqs_n {a b : List PV} : peqs C [] a b = some true := rfl
theorem x_peqs_c {a b : List PV} {ft w : Nat} {fs : List (Nat × TypeId × Nat)} : peqs C ((off, ft, w) :: fs) a b = peqA (C.T ft) a[off]? b[off]? (peqs C fs a b) := rfl
theorem x_peqA_i {k : IntKind} {q r : Nat} {z : List PV} {a b : Int} {rs : Bool} : peqA (some ⟨.int k, q, r, z⟩) (some (.int k a)) (some (.int k b)) (some rs) = some ((a == b) && rs) := by simp [peqA, peqk, peqc]
theorem x_peqA_s {q r : Nat} {z : List PV} {a b : ByteArray} {rs : Bool} : peqA (some ⟨.str, q, r, z⟩) (some (.str a)) (some (.str b)) (some rs) = some ((a.toList == b.toList) && rs) := rfl
theorem x_pb_agg {op : BinOp} {a : List PV} : pbin op (.agg a) v = none := by cases op <;> rfl
theorem x_pb_p4 {op : BinOp} {cs : List PV} : pbin op (.np cs) v = none := by cases op <;> rfl
theorem x_peqp7 {cs : List PV} : peqp (.np cs) .nilp = some false := rfl
theorem x_pb_sl_e {fl : Fl} {rows : List (List PV)} : pbin .eql (.sl fl sz rows) v = none := rfl
theorem x_peqp1 : peqp .nilp .nilp = some true := rfl
theorem x_peqp3 {cs : List PV} : peqp (.ip cs off) .nilp = some false := rfl
theorem x_peqp5 : peqp (.ref id off) .nilp = some false := rfl
theorem x_pb_p1 {op : BinOp} : pbin op .nilp v = none := by cases op <;> rfl
theorem x_pb_p2 {op : BinOp} {cs : List PV} : pbin op (.ip cs off) v = none := by cases op <;> rfl
theorem x_pb_p3 {op : BinOp} : pbin op (.ref id off) v = none := by cases op <;> rfl
theorem x_pb_b {op : BinOp} {b : Bool} : pbin op (.bool b) v = none := by cases op <;> rfl
section
variable {k : IntKind} {a b : Int}
theorem x_pb_add : pbin .add (.int k a) (.int k b) = some (.int k (k.wrap (a + b))) := by simp [pbin]
theorem x_pb_sub : pbin .sub (.int k a) (.int k b) = some (.int k (k.wrap (a - b))) := by simp [pbin]
theorem x_pb_mul : pbin .mul (.int k a) (.int k b) = some (.int k (k.wrap (a * b))) := by simp [pbin]
theorem x_pb_and : pbin .and (.int k a) (.int k b) = some (.int k (k.wrap (BitVec.ofInt k.bits a &&& BitVec.ofInt k.bits b).toNat)) := by simp [pbin]
theorem x_pb_eql : pbin .eql (.int k a) (.int k b) = some (.bool (a == b)) := by simp [pbin]
theorem x_pb_neq : pbin .neq (.int k a) (.int k b) = some (.bool (a != b)) := by simp [pbin]
theorem x_pb_lss : pbin .lss (.int k a) (.int k b) = some (.bool (decide (a < b))) := by simp [pbin]
theorem x_pb_leq : pbin .leq (.int k a) (.int k b) = some (.bool (decide (a ≤ b))) := by simp [pbin]
theorem x_pb_gtr : pbin .gtr (.int k a) (.int k b) = some (.bool (decide (b < a))) := by simp [pbin]
theorem x_pb_geq : pbin .geq (.int k a) (.int k b) = some (.bool (decide (b ≤ a))) := by simp [pbin]
theorem x_pb_quo (h : b ≠ 0) : pbin .quo (.int k a) (.int k b) = some (.int k (k.wrap (a.tdiv b))) := by simp [pbin, h]
theorem x_pb_rem (h : b ≠ 0) : pbin .rem (.int k a) (.int k b) = some (.int k (a.tmod b)) := by simp [pbin, h]
variable {s1 s2 : ByteArray}
theorem x_pb_seq : pbin .eql (.str s1) (.str s2) = some (.bool (s1.toList == s2.toList)) := rfl
theorem x_pb_sne : pbin .neq (.str s1) (.str s2) = some (.bool (!(s1.toList == s2.toList))) := rfl
theorem x_pb_slt : pbin .lss (.str s1) (.str s2) = some (.bool (Op.bytesLess s1.toList s2.toList)) := rfl
theorem x_pb_sgt : pbin .gtr (.str s1) (.str s2) = some (.bool (!(Op.bytesLess s1.toList s2.toList || s1.toList == s2.toList))) := rfl
theorem x_pb_sge : pbin .geq (.str s1) (.str s2) = some (.bool (!(Op.bytesLess s1.toList s2.toList))) := rfl
theorem x_pun_not {q : Bool} : pun .not (.bool q) = some (.bool !q) := rfl
theorem x_pun_neg : pun .neg (.int k a) = some (.int k (k.wrap (0 - a))) := rfl
end
theorem x_ploc_ip {fn : Nat → Nat} {cs : List PV} : ploc fn (.ip cs off) = some (.ip cs (fn off)) := rfl
theorem x_ploc_np {fn : Nat → Nat} {cs : List PV} : ploc fn (.np cs) = some (.ip cs (fn 0)) := rfl
theorem x_ploc_ref {fn : Nat → Nat} : ploc fn (.ref id off) = some (.ref id (fn off)) := rfl
def pFld (v : PV) (f : Nat) : Option TI → Option PV
 | some ⟨.struct fs, _, _, _⟩ => (match places fs f with | some (off, sz) => if sz = 0 then none else ploc (· + off) v | none => none)
 | _ => none
theorem x_p_fld {dd : Option Nat} : pop C ⟨dd, .fieldAddr t x f, ty, p, af, gd⟩ e = pFld (ev x e) f (C.T t) := rfl
theorem x_fld {q r : Nat} {z : List PV} {fs : List (Nat × TypeId × Nat)} : pFld v f (some ⟨.struct fs, q, r, z⟩) = (match places fs f with | some (off, sz) => if sz = 0 then none else ploc (· + off) v | none => none) := rfl
theorem x_pl_0 {o1 t1 z1 : Nat} {fs : List (Nat × TypeId × Nat)} : places ((o1, t1, z1) :: fs) 0 = some (o1, z1) := rfl
theorem x_pl_s {q : Nat × TypeId × Nat} {fs : List (Nat × TypeId × Nat)} : places (q :: fs) (j + 1) = places fs j := rfl
theorem x_ld1_i {kk : IntKind} {q r : Nat} {z cells : List PV} : pload ⟨(.int kk), q, r, z⟩ cells off = cells[off]?.map PV.bare := rfl
theorem x_ld1_b {q r : Nat} {z cells : List PV} : pload ⟨.bool, q, r, z⟩ cells off = cells[off]?.map PV.bare := rfl
theorem x_ld1_st {q r : Nat} {z cells : List PV} : pload ⟨.str, q, r, z⟩ cells off = cells[off]?.map PV.bare := rfl
theorem x_ld1_p {q r : Nat} {z cells : List PV} : pload ⟨.ptr, q, r, z⟩ cells off = cells[off]?.map PV.bare := rfl
theorem x_ld1_sl {q r : Nat} {z cells : List PV} : pload ⟨(.slice i), q, r, z⟩ cells off = cells[off]?.map PV.bare := rfl
theorem x_ld1_o {q r : Nat} {z cells : List PV} : pload ⟨.other, q, r, z⟩ cells off = cells[off]?.map PV.bare := rfl
theorem x_lda_s {fs : List (Nat × TypeId × Nat)} {q r : Nat} {z cells : List PV} : pload ⟨.struct fs, q, r, z⟩ cells off = if off + q ≤ cells.length then some (.agg ((cells.drop off).take q)) else none := rfl
theorem x_p_move {dd : Option Nat} : pop C ⟨dd, .move x, ty, p, af, gd⟩ e = some (opd C ty x e) := rfl
theorem x_p_pick {dd : Option Nat} {c : Operand} : pop C ⟨dd, .pick c x y, ty, p, af, gd⟩ e = (match ev c e with | .bool t => some (if t then (ev x e).bare else (ev y e).bare) | _ => none) := rfl
theorem x_p_nck {dd : Option Nat} : pop C ⟨dd, .nilCheck x, ty, p, af, gd⟩ e = ploc (fun q => q) (ev x e) := rfl
theorem x_p_idx {dd : Option Nat} : pop C ⟨dd, .indexAddr t x y, ty, p, af, gd⟩ e = (match C.T t with
  | some ⟨.slice el, _, _, _⟩ => (match C.T el, ev x e, ev y e with
   | some te, .sl _ sz rows, .int _ n => if te.size = sz then (if 0 ≤ n ∧ n < rows.length then some (.ip (rows.getD n.toNat []) 0) else none) else none
   | some te, .arr _ id off len sz, .int _ n => if te.size = sz then (if 0 ≤ n ∧ n < len then some (.ref id (off + n.toNat * sz)) else none) else none
   | _, _, _ => none)
  | some ⟨.array len el, _, _, _⟩ => (match C.T el, ev y e with
   | some te, .int _ n => if 0 ≤ n ∧ n < len then ploc (· + n.toNat * te.size) (ev x e) else none
   | _, _ => none)
  | _ => none) := rfl
theorem x_p_ext {dd : Option Nat} : pop C ⟨dd, .extract x i, ty, p, af, gd⟩ e = (match ev x e with | .tup vs => vs[i]?.map PV.bare | _ => none) := rfl
theorem x_p_build {dd : Option Nat} {ps : Array (Nat × Operand)} : pop C ⟨dd, .build t ps, ty, p, af, gd⟩ e = (match C.T t with
  | some ⟨.struct fs, _, _, z⟩ => (pfill (places fs) z (ps.toList.map fun p => (p.1, ev p.2 e))).map .agg
  | some ⟨.array _ el, _, _, z⟩ => (match C.T el with
   | some te => (pfill (fun i => some (i * te.size, te.size)) z (ps.toList.map fun p => (p.1, ev p.2 e))).map .agg
   | none => none)
  | _ => none) := rfl
theorem x_p_bsl {dd : Option Nat} {ps : Array (Nat × Operand)} : pop C ⟨dd, .buildSlice t n ps, ty, p, af, gd⟩ e = (match C.T t with
  | some ⟨.slice el, _, _, _⟩ => (match C.T el with
   | some te => if n * te.size ≤ 16777216 ∧ 0 < te.size then
     (pfill (fun i => some (i * te.size, te.size)) ((List.range (n * te.size)).map fun k => te.zero.getD (k % te.size) .undef) (ps.toList.map fun p => (p.1, ev p.2 e))).map fun cells => .sl .tail te.size (chunks te.size n cells)
     else none
   | none => none)
  | _ => none) := rfl
def pslG (v : PV) (sz : Nat) (lo hi mx : Option PV) : Option TI → Option PV
 | some te => if te.size = sz then pslice v lo hi mx else none
 | none => none
def parG (id off len sz : Nat) (lo hi mx : Option PV) : Option TI → Option PV
 | some te => if te.size = sz then parr id off len sz lo hi mx else none
 | none => none
def pslF (C : Ctx) (v : PV) (lo hi mx : Option PV) : Option TI → Option PV
 | some ⟨.str, _, _, _⟩ => (match v with | .str s => pslice (.str s) lo hi mx | _ => none)
 | some ⟨.slice el, _, _, _⟩ => (match v with | .sl f sz rows => pslG (.sl f sz rows) sz lo hi mx (C.T el) | .arr _ id off len sz => parG id off len sz lo hi mx (C.T el) | _ => none)
 | _ => none
theorem x_p_slice {dd : Option Nat} {lo hi mx : Option Operand} : pop C ⟨dd, .slice t x lo hi mx, ty, p, af, gd⟩ e = pslF C (ev x e) (lo.map (ev · e)) (hi.map (ev · e)) (mx.map (ev · e)) (C.T t) := by
 simp only [pop]
 generalize ev x e = v
 cases h : C.T t with
 | none => rfl
 | some ti =>
  obtain ⟨k, _, _, _⟩ := ti
  cases k <;> cases v <;> rfl
theorem x_pslF_t {q r : Nat} {z : List PV} {s : ByteArray} {lo hi mx : Option PV} : pslF C (.str s) lo hi mx (some ⟨.str, q, r, z⟩) = pslice (.str s) lo hi mx := rfl
theorem x_pslF_s {el q r : Nat} {z : List PV} {f : Fl} {rows : List (List PV)} {lo hi mx : Option PV} : pslF C (.sl f sz rows) lo hi mx (some ⟨.slice el, q, r, z⟩) = pslG (.sl f sz rows) sz lo hi mx (C.T el) := rfl
def par2 (id off len sz : Nat) (b : Bool) : Option PV → Option Int → Option Int → Option PV
 | none, some l, some h => if 0 ≤ l ∧ l ≤ h ∧ h ≤ len then some (.arr .no id (off + l.toNat * sz) (h.toNat - l.toNat) sz) else none
 | some (.int _ m), some l, some h => if 0 ≤ l ∧ l ≤ h ∧ h ≤ len then (if m = h ∧ h = l ∧ b = true then some (.sl .tail sz []) else none) else none
 | _, _, _ => none
theorem x_pslG {te : TI} {lo hi mx : Option PV} : pslG v sz lo hi mx (some te) = if te.size = sz then pslice v lo hi mx else none := rfl
def psl2 (sz : Nat) (rows : List (List PV)) (b : Bool) : Option PV → Option Int → Option Int → Option PV
 | none, some l, some h => if 0 ≤ l ∧ l ≤ h ∧ h ≤ rows.length then some (.sl .no sz ((rows.drop l.toNat).take (h.toNat - l.toNat))) else none
 | some (.int _ m), some l, some h => if 0 ≤ l ∧ l ≤ h ∧ h ≤ rows.length then (if m = h ∧ b = true then some (.sl .tail sz ((rows.drop l.toNat).take (h.toNat - l.toNat))) else none) else none
 | _, _, _ => none
def psl3 (s : ByteArray) : Option PV → Option Int → Option Int → Option PV
 | none, some l, some h => if 0 ≤ l ∧ l ≤ h ∧ h ≤ s.size then some (.str (s.extract l.toNat h.toNat)) else none
 | _, _, _ => none
theorem x_psl_s {f : Fl} {rows : List (List PV)} {lo hi mx : Option PV} : pslice (.sl f sz rows) lo hi mx = psl2 sz rows hi.isSome mx (bnd lo 0) (bnd hi rows.length) := by
 simp only [pslice]
 cases bnd lo 0 with
 | none => cases mx with | none => rfl | some v => cases v <;> rfl
 | some l =>
  cases bnd hi rows.length with
  | none => cases mx with | none => rfl | some v => cases v <;> rfl
  | some h =>
   dsimp only
   cases mx with
   | none => rfl
   | some v => cases v <;> (simp only [psl2]; try rfl) <;> split <;> rfl
theorem x_psl_t {s : ByteArray} {lo hi mx : Option PV} : pslice (.str s) lo hi mx = psl3 s mx (bnd lo 0) (bnd hi s.size) := by
 simp only [pslice]
 cases bnd lo 0 with
 | none => cases mx <;> rfl
 | some l => cases bnd hi s.size <;> cases mx <;> rfl
theorem x_psl2_n {rows : List (List PV)} {b : Bool} {l h : Int} : psl2 sz rows b none (some l) (some h) = if 0 ≤ l ∧ l ≤ h ∧ h ≤ rows.length then some (.sl .no sz ((rows.drop l.toNat).take (h.toNat - l.toNat))) else none := rfl
theorem x_psl3 {s : ByteArray} {l h : Int} : psl3 s none (some l) (some h) = if 0 ≤ l ∧ l ≤ h ∧ h ≤ s.size then some (.str (s.extract l.toNat h.toNat)) else none := rfl
theorem x_bnd_n {z : Int} : bnd none z = some z := rfl
theorem x_bnd_s {z m : Int} {k : IntKind} : bnd (some (.int k m)) z = some m := rfl
theorem x_p_cnv {dd : Option Nat} : pop C ⟨dd, .convert i t x, ty, p, af, gd⟩ e = (match C.T i, C.T t, ev x e with
  | some _, some ⟨.int k, _, _, _⟩, .int _ n => some (.int k (k.wrap n))
  | some ⟨.str, _, _, _⟩, some ⟨.str, _, _, _⟩, .str b => some (.str b)
  | some ⟨.slice el, _, _, _⟩, some ⟨.str, _, _, _⟩, .sl _ 1 rows => (match C.T el with | some ⟨.int .u8, _, _, _⟩ => (pbs rows).map fun ns => .str (bsOf ns) | _ => none)
  | _, _, _ => none) := rfl
theorem x_fill_n {pl : Nat → Option (Nat × Nat)} {cells : List PV} : pfill pl cells [] = some cells := rfl
theorem x_fill_c {pl : Nat → Option (Nat × Nat)} {cells : List PV} {ps : List (Nat × PV)} : pfill pl cells ((i, v) :: ps) = (match pl i, pcells v with
  | some (off, size), some vc => if vc.length = size ∧ off + size ≤ cells.length then pfill pl (psplice cells off vc) ps else none
  | _, _ => none) := rfl
theorem x_splice {cells vc : List PV} : psplice cells off vc = cells.take off ++ vc ++ cells.drop (off + vc.length) := rfl
theorem x_pc_agg {cs : List PV} : pcells (.agg cs) = some cs := rfl
theorem x_pc_bool {b : Bool} : pcells (.bool b) = some [.bool b] := rfl
theorem x_pc_int {k : IntKind} {m : Int} : pcells (.int k m) = some [.int k m] := rfl
theorem x_pc_str {b : ByteArray} : pcells (.str b) = some [.str b] := rfl
theorem x_pc_ip {cs : List PV} : pcells (.ip cs off) = some [.ip cs off] := rfl
theorem x_pc_ref : pcells (.ref id off) = some [.ref id off] := rfl
theorem x_pc_sl {fl : Fl} {rows : List (List PV)} : pcells (.sl fl sz rows) = some [.sl .no sz rows] := rfl
theorem x_chunks {cells : List PV} : chunks sz n cells = (List.range n).map fun j => (cells.drop (j * sz)).take sz := rfl
def plenS (n : Int) : Option TI → Option PV
 | some ⟨.slice _, _, _, _⟩ => some (.int .i64 n)
 | _ => none
def plenT (n : Int) : Option TI → Option PV
 | some ⟨.str, _, _, _⟩ => some (.int .i64 n)
 | _ => none
theorem x_plenS {el q r : Nat} {z : List PV} {n : Int} : plenS n (some ⟨.slice el, q, r, z⟩) = some (.int .i64 n) := rfl
theorem x_plenT {q r : Nat} {z : List PV} {n : Int} : plenT n (some ⟨.str, q, r, z⟩) = some (.int .i64 n) := rfl
theorem x_len_sl {fl : Fl} {rows : List (List PV)} {ts : Array TypeId} : pcall C .len ts [.sl fl sz rows] = plenS rows.length ((ts[0]?).bind C.T) := by
 simp only [pcall]
 unfold plenS
 rfl
theorem x_len_st {b : ByteArray} {ts : Array TypeId} : pcall C .len ts [.str b] = plenT b.size ((ts[0]?).bind C.T) := by
 simp only [pcall]
 unfold plenT
 rfl
theorem x_max2 {k k2 : IntKind} {a b : Int} {ts : Array TypeId} : pcall C .max ts [.int k a, .int k2 b] = some (.int k (if b > a then b else a)) := rfl
theorem x_min2 {k k2 : IntKind} {a b : Int} {ts : Array TypeId} : pcall C .min ts [.int k a, .int k2 b] = some (.int k (if b < a then b else a)) := rfl
theorem x_rg0 : List.range 0 = [] := by decide
def nilG : Option TI → PV
 | some te => .sl .tail te.size []
 | none => .sl .no 0 []
def nilF (C : Ctx) : Option TI → PV
 | some ⟨.slice el, _, _, _⟩ => nilG (C.T el)
 | _ => .sl .no 0 []
theorem x_nilOf : nilOf C t = nilF C (C.T t) := by
 unfold nilOf
 cases h : C.T t with
 | none => rfl
 | some ti =>
  obtain ⟨k, _, _, _⟩ := ti
  cases k
  case slice el => simp only [nilF]; cases C.T el <;> rfl
  all_goals rfl
theorem x_nilF {el q r : Nat} {z : List PV} : nilF C (some ⟨.slice el, q, r, z⟩) = nilG (C.T el) := rfl
theorem x_nilG {te : TI} : nilG (some te) = .sl .tail te.size [] := rfl
def pappH (te : TI) (sz : Nat) (rows : List (List PV)) : Option TI → PV → Option (Nat × List (List PV) × List (List PV))
 | some ti, x => (match ti.k, x with
  | .slice _, .sl _ sz2 more => if te.size = sz ∧ sz = sz2 ∧ 0 < sz ∧ (rows.length + more.length) * te.bytes ≤ capOf te.bytes ∧ rows.length + more.length ≤ capOf te.bytes then some (sz, rows, more) else none
  | .str, .str b => if te.size = sz ∧ sz = 1 ∧ (rows.length + b.size) * te.bytes ≤ capOf te.bytes ∧ rows.length + b.size ≤ capOf te.bytes then some (1, rows, b.data.toList.map fun c => [.int .u8 (c.toNat : Int)]) else none
  | _, _ => none)
 | none, _ => none
def pappG (C : Ctx) (tx sz : Nat) (rows : List (List PV)) (v : PV) : Option TI → Option (Nat × List (List PV) × List (List PV))
 | some te => pappH te sz rows (C.T tx) v
 | none => none
def pappF (C : Ctx) (tx sz : Nat) (rows : List (List PV)) (v : PV) : Option TI → Option (Nat × List (List PV) × List (List PV))
 | some ⟨.slice el, _, _, _⟩ => pappG C tx sz rows v (C.T el)
 | _ => none
theorem x_papp {tx : Nat} {rows : List (List PV)} : pappend C [t, tx] (.sl .tail sz rows) v = pappF C tx sz rows v (C.T t) := by
 simp only [pappend]
 unfold pappF
 split
 ·rename_i el _ _ _ h
  rw [h]
  dsimp only
  unfold pappG
  cases C.T el with
  | none => rfl
  | some te =>
   dsimp only
   simp only [pappendTo]
   unfold pappH
   cases C.T tx with
   | none => rfl
   | some ti => rfl
 ·rename_i hne
  split
  ·rename_i el q r z h
   exact (hne el q r z h).elim
  ·rfl
theorem x_pappF {tx el q r : Nat} {z : List PV} {rows : List (List PV)} : pappF C tx sz rows v (some ⟨.slice el, q, r, z⟩) = pappG C tx sz rows v (C.T el) := rfl
theorem x_pappG {tx : Nat} {te : TI} {rows : List (List PV)} : pappG C tx sz rows v (some te) = pappH te sz rows (C.T tx) v := rfl
theorem x_pappHs {te : TI} {el q r : Nat} {z : List PV} {fl : Fl} {sz2 : Nat} {rows more : List (List PV)} :
  pappH te sz rows (some ⟨.slice el, q, r, z⟩) (.sl fl sz2 more) = if te.size = sz ∧ sz = sz2 ∧ 0 < sz ∧ (rows.length + more.length) * te.bytes ≤ capOf te.bytes ∧ rows.length + more.length ≤ capOf te.bytes then some (sz, rows, more) else none := rfl
theorem x_pappHt {te : TI} {q r : Nat} {z : List PV} {b : ByteArray} {rows : List (List PV)} :
  pappH te sz rows (some ⟨.str, q, r, z⟩) (.str b) = if te.size = sz ∧ sz = 1 ∧ (rows.length + b.size) * te.bytes ≤ capOf te.bytes ∧ rows.length + b.size ≤ capOf te.bytes then some (1, rows, b.data.toList.map fun c => [.int .u8 (c.toNat : Int)]) else none := rfl

/-! ### regions that draw -/
def vQV (C : Ctx) (X : Fx) (all : List Oper) (K : Env → Store → Prop) (os : List Oper) (d : Nat) (e : Env) (S : Store) : Option PV → Prop
 | some v => (d < X.n ∧ X.mv d = false) ∧ vopsQ C X all K os (e.put d v) S
 | none => False
def vQLR (C : Ctx) (X : Fx) (all : List Oper) (K : Env → Store → Prop) (os : List Oper) (d : Nat) (e : Env) (S : Store) (ti : TI) (off : Nat) : Option (List PV) → Prop
 | some cells => vQV C X all K os d e S (pload ti (cells.map PV.bare) off)
 | none => False
def vQL (C : Ctx) (X : Fx) (all : List Oper) (K : Env → Store → Prop) (os : List Oper) (d : Nat) (e : Env) (S : Store) : PV → Option TI → Prop
 | .ip cells off, some ti => vQV C X all K os d e S (pload ti cells off)
 | .np cells, some ti => vQV C X all K os d e S (pload ti cells 0)
 | .ref id off, some ti => vQLR C X all K os d e S ti off (S id)
 | _, _ => False
def vQG (C : Ctx) (X : Fx) (all : List Oper) (K : Env → Store → Prop) (o : Oper) (os : List Oper) (d : Nat) (e : Env) (S : Store) : Bool → PV → Prop
 | true, .bool true => vopsQ C X all K (o :: os) e S
 | false, .bool false => vopsQ C X all K (o :: os) e S
 | true, .bool false => d < X.n ∧ vopsQ C X all K os (e.put d (.tup [])) S
 | false, .bool true => d < X.n ∧ vopsQ C X all K os (e.put d (.tup [])) S
 | _, .tup [] => d < X.n ∧ vopsQ C X all K os (e.put d (.tup [])) S
 | _, _ => False
theorem x_q_nil : vopsQ C X all K [] e S = K e S := rfl
theorem x_qv : vQV C X all K os d e S (some v) = ((d < X.n ∧ X.mv d = false) ∧ vopsQ C X all K os (e.put d v) S) := rfl
theorem q_pop {op : Op} (hb : isBox op = false) (hm : mvr X ⟨some d, op, ty, p, af, none⟩ = none) (h : ∀ v, qop0 C X ⟨some d, op, ty, p, af, none⟩ e S v ↔ pop C ⟨some d, op, ty, p, af, none⟩ e = some v) :
  vopsQ C X all K (⟨some d, op, ty, p, af, none⟩ :: os) e S = vQV C X all K os d e S (pop C ⟨some d, op, ty, p, af, none⟩ e) := by
 simp only [vopsQ, ods, vguard, qop, hm, effG, h, mvOk, hb, Bool.false_eq_true, or_false, Option.isSome_none]
 cases pop C ⟨some d, op, ty, p, af, none⟩ e with
 | none => simp [vQV]
 | some v => simp [vQV, ite_and]
section
variable {c : Operand} {op : BinOp} {uo : UnOp} {ps : Array (Nat × Operand)} {lo hi mx : Option Operand}
def vQM (C : Ctx) (X : Fx) (all : List Oper) (K : Env → Store → Prop) (os : List Oper) (d t : Nat) (e : Env) (S : Store) : Bool → Prop
 | false => d < X.n ∧ vopsQ C X all K os (e.put d (e t).bare) S
 | true => (d < X.n ∧ t < X.n ∧ t ≠ d) ∧ vopsQ C X all K os ((e.put t (e t).bare).put d (e t)) S
theorem x_qm_f : vQM C X all K os d t e S false = (d < X.n ∧ vopsQ C X all K os (e.put d (e t).bare) S) := rfl
theorem x_qm_t : vQM C X all K os d t e S true = ((d < X.n ∧ t < X.n ∧ t ≠ d) ∧ vopsQ C X all K os ((e.put t (e t).bare).put d (e t)) S) := rfl
theorem vQM_congr {e' : Env} {a b : Bool} (h : e = e') (hv : a = b) : vQM C X all K os d t e S a = vQM C X all K os d t e' S b := by rw [h, hv]
theorem q_mv {op : Op} (hop : op = .move (.tmp t) ∨ op = .assign (.tmp t)) : vopsQ C X all K (⟨some d, op, ty, p, af, none⟩ :: os) e S = vQM C X all K os d t e S (X.mv d) := by
 have hb : isBox op = false := by rcases hop with rfl | rfl <;> rfl
 have hp : pop C ⟨some d, op, ty, p, af, none⟩ e = some (e t).bare := by rcases hop with rfl | rfl <;> rfl
 have hm : mvr X ⟨some d, op, ty, p, af, none⟩ = if X.mv d then some t else none := by rcases hop with rfl | rfl <;> rfl
 have hq : qop0 C X ⟨some d, op, ty, p, af, none⟩ e S = fun v => pop C ⟨some d, op, ty, p, af, none⟩ e = some v := by rcases hop with rfl | rfl <;> rfl
 have hv : qmv C X ⟨some d, op, ty, p, af, none⟩ e S = fun v => t < X.n ∧ t ≠ d ∧ v = e t := by rcases hop with rfl | rfl <;> rfl
 cases hd : X.mv d with
 | false =>
  rw [hd] at hm
  simp only [Bool.false_eq_true, if_false] at hm
  simp only [vopsQ, ods, vguard, qop, hm, effG, hq, hp, mvOk, hb, hd, vQM, Option.some.injEq]
  apply propext
  constructor
  ·intro h
   split at h
   ·rename_i hc; obtain ⟨v, rfl, hr⟩ := h; exact ⟨hc.1, hr⟩
   ·exact h.elim
  ·rintro ⟨h1, h2⟩
   rw [if_pos ⟨h1, .inr (.inl trivial)⟩]
   exact ⟨_, rfl, h2⟩
 | true =>
  rw [hd] at hm
  simp only [if_true] at hm
  simp only [vopsQ, ods, vguard, qop, hm, effG, hv, mvOk, hb, hd, vQM]
  apply propext
  constructor
  ·intro h
   split at h
   ·rename_i hc; obtain ⟨v, ⟨h1, h2, rfl⟩, hr⟩ := h; exact ⟨⟨hc.1, h1, h2⟩, hr⟩
   ·exact h.elim
  ·rintro ⟨⟨h1, h2, h3⟩, h4⟩
   rw [if_pos ⟨h1, .inr (.inr (.inr rfl))⟩]
   exact ⟨_, ⟨h2, h3, rfl⟩, h4⟩
theorem x_q_move : vopsQ C X all K (⟨some d, .move (.tmp t), ty, p, af, none⟩ :: os) e S = vQM C X all K os d t e S (X.mv d) := q_mv (.inl rfl)
theorem x_q_assign : vopsQ C X all K (⟨some d, .assign (.tmp t), ty, p, af, none⟩ :: os) e S = vQM C X all K os d t e S (X.mv d) := q_mv (.inr rfl)
def vQAp (C : Ctx) (X : Fx) (all : List Oper) (K : Env → Store → Prop) (os : List Oper) (d s : Nat) (e : Env) (S : Store) : Option (Nat × List (List PV) × List (List PV)) → Prop
 | some (sz, rows, more) => (d < X.n ∧ s < X.n) ∧ vopsQ C X all K os ((e.put s (e s).bare).put d (.sl .tail sz (rows ++ more))) S
 | none => False
theorem x_qap {rows more : List (List PV)} {sz : Nat} : vQAp C X all K os d s e S (some (sz, rows, more)) = ((d < X.n ∧ s < X.n) ∧ vopsQ C X all K os ((e.put s (e s).bare).put d (.sl .tail sz (rows ++ more))) S) := rfl
theorem vQAp_congr {e' : Env} {q r : Option (Nat × List (List PV) × List (List PV))} (h : e = e') (hq : q = r) : vQAp C X all K os d s e S q = vQAp C X all K os d s e' S r := by rw [h, hq]
theorem x_q_append {ts : Array TypeId} : vopsQ C X all K (⟨some d, .call ⟨.builtin .append, #[.tmp s, x], ts⟩, ty, p, af, none⟩ :: os) e S = (X.vars d = false ∧ vQAp C X all K os d s e S (pappend C ts.toList (e s) (vw S (ev x e)))) := by
 have hm : mvr X ⟨some d, .call ⟨.builtin .append, #[.tmp s, x], ts⟩, ty, p, af, none⟩ = some s := rfl
 have hv : qmv C X ⟨some d, .call ⟨.builtin .append, #[.tmp s, x], ts⟩, ty, p, af, none⟩ e S = fun v => X.vars d = false ∧ s < X.n ∧ ∃ sz rows more, pappend C ts.toList (e s) (vw S (ev x e)) = some (sz, rows, more) ∧ v = .sl .tail sz (rows ++ more) := rfl
 simp only [vopsQ, ods, vguard, qop, hm, effG, hv, mvOk]
 apply propext
 constructor
 ·intro h
  split at h
  ·rename_i hc
   obtain ⟨v, ⟨h1, h2, sz, rows, more, h3, rfl⟩, hr⟩ := h
   rw [h3]
   exact ⟨h1, ⟨hc.1, h2⟩, hr⟩
  ·exact h.elim
 ·rintro ⟨h1, h2⟩
  unfold vQAp at h2
  split at h2
  ·rename_i sz rows more hp
   rw [if_pos ⟨h2.1.1, .inr (.inr (.inr rfl))⟩]
   exact ⟨_, ⟨h1, h2.1.2, sz, rows, more, hp, rfl⟩, h2.2⟩
  ·exact h2.elim
theorem q_const {o : Oper} {w : Value} {v : PV} (hc : w ≠ .slice none 0 0) (ho : o.op = .move (.const w) ∨ o.op = .assign (.const w)) : qop0 C X o e S v ↔ pop C o e = some v := by
 unfold qop0
 rcases ho with ho | ho <;> rw [ho]
 ·split
  all_goals first | (rename_i h; cases h; done) | (rename_i h; injection h with h; injection h with h; exact absurd h hc) | exact Iff.rfl
 ·split
  all_goals first | (rename_i h; cases h; done) | (rename_i h; injection h with h; injection h with h; exact absurd h hc) | exact Iff.rfl
theorem x_q_move_c {w : Value} (hc : w ≠ .slice none 0 0) : vopsQ C X all K (⟨some d, .move (.const w), ty, p, af, none⟩ :: os) e S = vQV C X all K os d e S (pop C ⟨some d, .move (.const w), ty, p, af, none⟩ e) := q_pop rfl rfl fun _ => q_const hc (.inl rfl)
theorem x_q_pick : vopsQ C X all K (⟨some d, .pick c x y, ty, p, af, none⟩ :: os) e S = vQV C X all K os d e S (pop C ⟨some d, .pick c x y, ty, p, af, none⟩ e) := q_pop rfl rfl fun _ => Iff.rfl
theorem x_q_nilCheck : vopsQ C X all K (⟨some d, .nilCheck x, ty, p, af, none⟩ :: os) e S = vQV C X all K os d e S (pop C ⟨some d, .nilCheck x, ty, p, af, none⟩ e) := q_pop rfl rfl fun _ => Iff.rfl
theorem x_q_fieldAddr : vopsQ C X all K (⟨some d, .fieldAddr t x f, ty, p, af, none⟩ :: os) e S = vQV C X all K os d e S (pop C ⟨some d, .fieldAddr t x f, ty, p, af, none⟩ e) := q_pop rfl rfl fun _ => Iff.rfl
theorem x_q_indexAddr : vopsQ C X all K (⟨some d, .indexAddr t x y, ty, p, af, none⟩ :: os) e S = vQV C X all K os d e S (pop C ⟨some d, .indexAddr t x y, ty, p, af, none⟩ e) := q_pop rfl rfl fun _ => Iff.rfl
theorem x_q_binOp : vopsQ C X all K (⟨some d, .binOp op t x y i, ty, p, af, none⟩ :: os) e S = vQV C X all K os d e S (pop C ⟨some d, .binOp op t x y i, ty, p, af, none⟩ e) := q_pop rfl rfl fun _ => Iff.rfl
theorem x_q_convert : vopsQ C X all K (⟨some d, .convert i t x, ty, p, af, none⟩ :: os) e S = vQV C X all K os d e S (pop C ⟨some d, .convert i t x, ty, p, af, none⟩ e) := q_pop rfl rfl fun _ => Iff.rfl
theorem x_q_extract : vopsQ C X all K (⟨some d, .extract x i, ty, p, af, none⟩ :: os) e S = vQV C X all K os d e S (pop C ⟨some d, .extract x i, ty, p, af, none⟩ e) := q_pop rfl rfl fun _ => Iff.rfl
theorem x_q_build : vopsQ C X all K (⟨some d, .build t ps, ty, p, af, none⟩ :: os) e S = vQV C X all K os d e S (pop C ⟨some d, .build t ps, ty, p, af, none⟩ e) := q_pop rfl rfl fun _ => Iff.rfl
theorem x_q_buildSlice : vopsQ C X all K (⟨some d, .buildSlice t n ps, ty, p, af, none⟩ :: os) e S = vQV C X all K os d e S (pop C ⟨some d, .buildSlice t n ps, ty, p, af, none⟩ e) := q_pop rfl rfl fun _ => Iff.rfl
theorem x_q_slice : vopsQ C X all K (⟨some d, .slice t x lo hi mx, ty, p, af, none⟩ :: os) e S = vQV C X all K os d e S (pop C ⟨some d, .slice t x lo hi mx, ty, p, af, none⟩ e) := q_pop rfl rfl fun _ => Iff.rfl
theorem x_q_load : vopsQ C X all K (⟨some d, .load t x, ty, p, af, none⟩ :: os) e S = vQL C X all K os d e S (ev x e) (C.T t) := by
 cases hx : ev x e with
 | ip cells off =>
  rw [q_pop rfl rfl (fun v => by simp only [qop0, hx])]
  cases ht : C.T t with
  | none => simp only [pop, hx, ht]; rfl
  | some ti => simp only [pop, hx, ht]; rfl
 | np cells =>
  rw [q_pop rfl rfl (fun v => by simp only [qop0, hx])]
  cases ht : C.T t with
  | none => simp only [pop, hx, ht]; rfl
  | some ti => simp only [pop, hx, ht]; rfl
 | ref id off =>
  cases ht : C.T t with
  | none =>
   rw [q_pop rfl rfl (fun v => by simp only [qop0, hx, ht])]
   simp only [pop, hx, ht]; rfl
  | some ti =>
   simp only [vQL]
   cases hS : S id with
   | none => simp [vopsQ, ods, vguard, qop, qop0, mvr, effG, Option.isSome_none, hx, ht, hS, vQLR, mvOk, isBox]
   | some cells =>
    simp only [vQLR, vopsQ, ods, vguard, qop, qop0, mvr, effG, Option.isSome_none, hx, ht, hS, reduceCtorEq, false_or, mvOk, isBox, Bool.false_eq_true, or_false, Option.isSome_none]
    cases pload ti (cells.map PV.bare) off with
    | none => simp [vQV]
    | some v => simp [vQV, ite_and]
 | _ =>
  rw [q_pop rfl rfl (fun v => by simp only [qop0, hx])]
  cases ht : C.T t <;> simp only [pop, hx, ht] <;> rfl
def vQB (C : Ctx) (X : Fx) (all : List Oper) (K : Env → Store → Prop) (os : List Oper) (d : Nat) (e : Env) (S : Store) : Option (List PV) → Prop
 | some cs => (d < X.n ∧ X.vars d = false) ∧ vopsQ C X all K os (e.put d (if X.mv d = true then .np cs else .ip cs 0)) S
 | none => False
theorem x_qb {cs : List PV} : vQB C X all K os d e S (some cs) = ((d < X.n ∧ X.vars d = false) ∧ vopsQ C X all K os (e.put d (if X.mv d = true then .np cs else .ip cs 0)) S) := rfl
theorem vQB_congr {e' : Env} {a b : Option (List PV)} (h : e = e') (hv : a = b) : vQB C X all K os d e S a = vQB C X all K os d e' S b := by rw [h, hv]
theorem x_q_box : vopsQ C X all K (⟨some d, .box t x, ty, p, af, none⟩ :: os) e S = vQB C X all K os d e S (pcells (ev x e)) := by
 simp only [vopsQ, ods, vguard, qop, qop0, mvr, effG, Option.isSome_none, mvOk, isBox, true_or, or_true, and_true]
 apply propext
 cases hp : pcells (ev x e) with
 | none =>
  constructor
  ·intro h
   split at h
   ·obtain ⟨v, ⟨d', cs, _, _, h3, _⟩, _⟩ := h; cases h3
   ·exact h
  ·exact fun h => h.elim
 | some cs =>
  simp only [vQB]
  constructor
  ·intro h
   split at h
   ·rename_i hd
    obtain ⟨v, ⟨d', cs', h1, h2, h3, rfl⟩, hr⟩ := h
    injection h1 with h1
    injection h3 with h3
    subst h1
    subst h3
    exact ⟨⟨hd, h2⟩, hr⟩
   ·exact h.elim
  ·rintro ⟨⟨h1, h2⟩, hr⟩
   rw [if_pos h1]
   exact ⟨_, ⟨d, cs, rfl, h2, rfl, rfl⟩, hr⟩
theorem x_q_len {xs : Array Operand} {ts : Array TypeId} : vopsQ C X all K (⟨some d, .call ⟨.builtin .len, xs, ts⟩, ty, p, af, none⟩ :: os) e S = vQV C X all K os d e S (pcall C .len ts (xs.toList.map (ev · e))) := q_pop rfl rfl fun _ => Iff.rfl
theorem x_q_max {xs : Array Operand} {ts : Array TypeId} : vopsQ C X all K (⟨some d, .call ⟨.builtin .max, xs, ts⟩, ty, p, af, none⟩ :: os) e S = vQV C X all K os d e S (pcall C .max ts (xs.toList.map (ev · e))) := q_pop rfl rfl fun _ => Iff.rfl
theorem x_q_min {xs : Array Operand} {ts : Array TypeId} : vopsQ C X all K (⟨some d, .call ⟨.builtin .min, xs, ts⟩, ty, p, af, none⟩ :: os) e S = vQV C X all K os d e S (pcall C .min ts (xs.toList.map (ev · e))) := q_pop rfl rfl fun _ => Iff.rfl
theorem x_q_g {dop : Op} {b : Bool} : vopsQ C X all K (⟨some d, dop, ty, p, af, some (j, b)⟩ :: os) e S = vQG C X all K ⟨some d, dop, ty, p, af, none⟩ os d e S b (gval all j e) := by
 rw [vopsQ]
 simp only [ods, vguard, gval, gnth_eq, reduceCtorEq, false_or, and_true]
 have hq : ∀ v, qop C X ⟨some d, dop, ty, p, af, some (j, b)⟩ e S v = qop C X ⟨some d, dop, ty, p, af, none⟩ e S v := fun _ => rfl
 have hm : mvr X ⟨some d, dop, ty, p, af, some (j, b)⟩ = mvr X ⟨some d, dop, ty, p, af, none⟩ := rfl
 cases hd : (all[j]?).bind (·.dst) with
 | none => cases b <;> rfl
 | some d' =>
  dsimp only
  cases e d' with
  | bool q => cases q <;> cases b <;> simp [vQG, vopsQ, ods, vguard, hq, hm, mvOk, ite_and]
  | tup vs => cases vs <;> cases b <;> simp [vQG, ite_and]
  | _ => cases b <;> rfl
def vQSt (C : Ctx) (X : Fx) (all : List Oper) (K : Env → Store → Prop) (os : List Oper) (s : Nat) (e : Env) (S : Store) : Option TI → PV → Option (List PV) → Prop
 | some ti, .fresh n, some cs => (cs.length = n ∧ ti.size = n ∧ s < X.n) ∧ vopsQ C X all K os (e.put s (if X.mv s = true then .np cs else .ip cs 0)) S
 | _, _, _ => False
theorem x_q_store : vopsQ C X all K (⟨none, .store t (.tmp s) x, ty, p, af, none⟩ :: os) e S = vQSt C X all K os s e S (C.T t) (e s) (pcells (opd C t x e)) := by
 simp only [vopsQ, ods, vguard, qop, qop0, mvr, effG, Option.isSome_none, true_or, and_true]
 apply propext
 constructor
 ·intro h
  split at h
  ·rename_i hs
   obtain ⟨v, ⟨ti, n, cs, h1, h2, h3, h4, h5, _, rfl⟩, hv⟩ := h
   rw [h1, h2, h3]
   exact ⟨⟨h4, h5, hs⟩, hv⟩
  ·exact h.elim
 ·intro h
  unfold vQSt at h
  split at h
  ·rename_i ti n cs h1 h2 h3
   obtain ⟨⟨h4, h5, h6⟩, hv⟩ := h
   rw [if_pos h6]
   exact ⟨_, ⟨ti, n, cs, h1, h2, h3, h4, h5, trivial, rfl⟩, hv⟩
  ·exact h.elim
theorem x_qst {ti : TI} {cs : List PV} : vQSt C X all K os s e S (some ti) (.fresh n) (some cs) = ((cs.length = n ∧ ti.size = n ∧ s < X.n) ∧ vopsQ C X all K os (e.put s (if X.mv s = true then .np cs else .ip cs 0)) S) := rfl
theorem vQSt_congr {e' : Env} {q r : Option TI} {a b : PV} {m l : Option (List PV)} (h : e = e') (hq : q = r) (hv : a = b) (hm : m = l) : vQSt C X all K os s e S q a m = vQSt C X all K os s e' S r b l := by rw [h, hq, hv, hm]
theorem x_qg_tt {o : Oper} : vQG C X all K o os d e S true (.bool true) = vopsQ C X all K (o :: os) e S := rfl
theorem x_qg_ff {o : Oper} : vQG C X all K o os d e S false (.bool false) = vopsQ C X all K (o :: os) e S := rfl
theorem x_qg_tf {o : Oper} : vQG C X all K o os d e S true (.bool false) = (d < X.n ∧ vopsQ C X all K os (e.put d (.tup [])) S) := rfl
theorem q_call {xs : Array Operand} {ts : Array TypeId} (v : PV)
  (hs : PRet C.P f (cargs C false xs.toList ts.toList e) S v) (hd : d < X.n) (hm : X.mv d = false) (h : vopsQ C X all K os (e.put d v) S) : vopsQ C X all K (⟨some d, .call ⟨.value (.func f), xs, ts⟩, ty, p, af, none⟩ :: os) e S := by
 simp only [vopsQ, ods, vguard]
 rw [if_pos ⟨hd, .inr (.inl hm)⟩]
 exact ⟨v, hs, h⟩
theorem vQV_congr {e' : Env} {a b : Option PV} (h : e = e') (hv : a = b) : vQV C X all K os d e S a = vQV C X all K os d e' S b := by rw [h, hv]
theorem vQL_congr {e' : Env} {a b : PV} {q r : Option TI} (h : e = e') (hv : a = b) (hq : q = r) : vQL C X all K os d e S a q = vQL C X all K os d e' S b r := by rw [h, hv, hq]
theorem vQLR_congr {e' : Env} {ti : TI} {q r : Option (List PV)} (h : e = e') (hq : q = r) : vQLR C X all K os d e S ti off q = vQLR C X all K os d e' S ti off r := by rw [h, hq]
theorem vQG_congr {o : Oper} {b : Bool} {e' : Env} (h : e = e') (hv : v = u) : vQG C X all K o os d e S b v = vQG C X all K o os d e' S b u := by rw [h, hv]
theorem x_ql_ip {cells : List PV} {ti : TI} : vQL C X all K os d e S (.ip cells off) (some ti) = vQV C X all K os d e S (pload ti cells off) := rfl
theorem x_ql_ref {ti : TI} : vQL C X all K os d e S (.ref id off) (some ti) = vQLR C X all K os d e S ti off (S id) := rfl
theorem x_qlr {ti : TI} {cells : List PV} : vQLR C X all K os d e S ti off (some cells) = vQV C X all K os d e S (pload ti (cells.map PV.bare) off) := rfl
end
/-! ### simp goes to the values alone -/
theorem vwp_congr {c : Code} {e' : Env} (h : e = e') : vwp C X c Q e S = vwp C X c Q e' S := by rw [h]
theorem vtree_congr {q : OT} {e' : Env} (h : e = e') : vtree C X all K q e S = vtree C X all K q e' S := by rw [h]
theorem vopsO_congr {o o' : Option Oper} {e' : Env} (h : e = e') (ho : o = o') : vopsO C X all K e S o = vopsO C X all K e' S o' := by rw [h, ho]
theorem vops_congr {e' : Env} (h : e = e') : vops C X all K os e S = vops C X all K os e' S := by rw [h]
theorem vop_congr {o : Oper} {e' : Env} (h : e = e') : vop C X o K e S = vop C X o K e' S := by rw [h]
theorem vPutV_congr {e' : Env} {a b : Option PV} (h : e = e') (hv : a = b) : vPutV X d K e S a = vPutV X d K e' S b := by rw [h, hv]
theorem vBnV_congr {op : BinOp} {z z' : Bool} {ti : Option TI} {mz : Option Value} {e' : Env} {a b : Option PV} (h : e = e') (hz : z = z') (hv : a = b) : vBnV C X d op z ti mz u y K e S a = vBnV C X d op z' ti mz u y K e' S b := by rw [h, hz, hv]
theorem vSame_congr {op : BinOp} {z z' : Bool} {ti tj : Option TI} {e' : Env} {a b : PV} {dd : Option Nat} (h : e = e') (hz : z = z') (ht : ti = tj) (hv : a = b) : vSame C X op z ti a y dd K e S = vSame C X op z' tj b y dd K e' S := by rw [h, hz, ht, hv]
theorem vMv_congr {e' : Env} {a b : Bool} (h : e = e') (hv : a = b) : vMv X d s K e S a = vMv X d s K e' S b := by rw [h, hv]
theorem vLd_congr {e' : Env} {a b : PV} {q r : Option TI} (h : e = e') (hv : a = b) (hq : q = r) : vLd X d K e S a q = vLd X d K e' S b r := by rw [h, hv, hq]
theorem vLdR_congr {e' : Env} {ti : TI} {q r : Option (List PV)} (h : e = e') (hq : q = r) : vLdR X d K e S ti id off q = vLdR X d K e' S ti id off r := by rw [h, hq]
theorem vTk_congr {e' : Env} {ti : TI} {cells cells' : List PV} {a b : Bool} (h : e = e') (hc : cells = cells') (hb : a = b) : vTk X d K e S ti id off cells a = vTk X d K e' S ti id off cells' b := by rw [h, hc, hb]
theorem vTk2_congr {e' : Env} {cells cells' : List PV} {a b : Bool} {q r : Option PV} (h : e = e') (hc : cells = cells') (hb : a = b) (hq : q = r) : vTk2 X d K e S id off cells a q = vTk2 X d K e' S id off cells' b r := by rw [h, hc, hb, hq]
theorem vKp_congr {e' : Env} {cells cells' cs cs' zs : List PV} {a b a' b' : Bool} (h : e = e') (hc : cells = cells') (hcs : cs = cs') (ha : a = a') (hb : b = b') : vKp X s K e S id cells off cs zs a b = vKp X s K e' S id cells' off cs' zs a' b' := by rw [h, hc, hcs, ha, hb]
theorem vKeep_congr {e' : Env} {cells cells' cs cs' zs : List PV} (h : e = e') (hc : cells = cells') (hcs : cs = cs') : vKeep X x K e S id cells off cs zs = vKeep X x K e' S id cells' off cs' zs := by rw [h, hc, hcs]
theorem vAl_congr {e' : Env} {a b : Bool} {q r : Option TI} (h : e = e') (hv : a = b) (hq : q = r) : vAl X d K e S a q = vAl X d K e' S b r := by rw [h, hv, hq]
theorem vBx_congr {e' : Env} {m m' a b : Bool} {q r : Option (List PV)} (h : e = e') (hm : m = m') (hv : a = b) (hq : q = r) : vBx X d K e S m a q = vBx X d K e' S m' b r := by rw [h, hm, hv, hq]
theorem vSt_congr {e' : Env} {a b : PV} {q r : Option TI} {m l : Option (List PV)} (h : e = e') (hq : q = r) (hv : a = b) (hm : m = l) : vSt X x s K e S q a m = vSt X x s K e' S r b l := by rw [h, hv, hq, hm]
theorem vStR_congr {e' : Env} {ti : TI} {cs cs' : List PV} {q r : Option (List PV)} (h : e = e') (hc : cs = cs') (hq : q = r) : vStR X x K e S ti cs id off q = vStR X x K e' S ti cs' id off r := by rw [h, hc, hq]
theorem vAp_congr {e' : Env} {q r : Option (Nat × List (List PV) × List (List PV))} (h : e = e') (hq : q = r) : vAp X d s K e S q = vAp X d s K e' S r := by rw [h, hq]
theorem vAp0_congr {e' : Env} {q r : Option (Nat × List (List PV) × List (List PV))} (h : e = e') (hq : q = r) : vAp0 X d K e S q = vAp0 X d K e' S r := by rw [h, hq]
theorem vCl_congr {e' : Env} {xs : List Operand} {ts : List TypeId} {a b : Bool} (h : e = e') (hv : a = b) : vCl C X d f xs ts K e S a = vCl C X d f xs ts K e' S b := by rw [h, hv]
theorem vCondK_congr {a b : Code} {e' : Env} (h : e = e') (hv : v = u) : vCondK C X a b Q e S v = vCondK C X a b Q e' S u := by rw [h, hv]
theorem vopsG_congr {o : Oper} {b : Bool} {e' : Env} (h : e = e') (hv : v = u) : vopsG C X all K o os e S b v = vopsG C X all K o os e' S b u := by rw [h, hv]
theorem vSkip_congr {dd : Option Nat} {e' : Env} (h : e = e') : vSkip C X all K dd os e S = vSkip C X all K dd os e' S := by rw [h]
theorem thenK_congr {W : Env → Store → Prop} {px : PExit} {e' : Env} (h : e = e') : thenK W Q px e S = thenK W Q px e' S := by rw [h]
theorem blockK_congr {px : PExit} {e' : Env} (h : e = e') : blockK i Q px e S = blockK i Q px e' S := by rw [h]
theorem retK_congr {W : Env → Store → Prop} {dd : Option Nat} {e' : Env} (h : e = e') (hv : v = u) : retK W e dd v S = retK W e' dd u S := by rw [h, hv]
theorem retPost_congr {rs : List ResultVar} {W : PV → Store → Prop} {px : PExit} {e' : Env} (h : e = e') : retPost C rs W px e S = retPost C rs W px e' S := by rw [h]
theorem PCalls_congr {P : Program} {args args' : List PV} {W : PV → Store → Prop} (h : args = args') : PCalls P f args S W = PCalls P f args' S W := by rw [h]
theorem gval_congr {e' : Env} (h : e = e') : gval all j e = gval all j e' := by rw [h]
theorem vopsQ_congr {e' : Env} (h : e = e') : vopsQ C X all K os e S = vopsQ C X all K os e' S := by rw [h]
theorem afterCall_congr {mv : Bool} {xs : List Operand} {e' : Env} (h : e = e') : afterCall mv xs e = afterCall mv xs e' := by rw [h]
end




theorem set_same {S : Store} {id : Nat} {c : Option (List PV)} : S.set id c id = c := by simp [Store.set]
theorem set_set {S : Store} {id : Nat} {c c' : Option (List PV)} : (S.set id c).set id c' = S.set id c' := by
 funext i
 simp only [Store.set]
 split <;> rfl
theorem set_ne {S : Store} {id j : Nat} {c : Option (List PV)} (h : j ≠ id) : S.set id c j = S j := by simp [Store.set, h]
attribute [go_sem] o_sl o_int o_str x_tk_f x_isSl x_isSl_i x_isSl_a x_isSl_p x_keep_t x_kp_f set_same set_set x_rg0 x_skip x_region x_seq x_block x_exit x_ret x_cond x_cond_t x_cond_f x_then_n x_then_e x_then_r x_blk_n x_blk_e x_blk_r x_loop_e x_loop_r x_nil x_cons x_cons_g x_g_t x_g_f x_g_tf x_g_ft x_g_u x_vskip x_putV x_move_t x_assign_t x_move_c x_assign_c x_mv_f x_mv_t x_pick x_nilCheck x_fieldAddr x_indexAddr x_binOp x_bnv x_bnv_n x_same_e x_bin_sl_e x_pb_sl_e x_unOp x_convert x_extract x_build x_buildSlice x_slice x_makeFunc x_load x_ld_ip x_ld_ref x_ldr x_alloc x_al_f x_al_t x_box x_bx_f x_bx_t x_store x_st_f x_st_r x_str x_append x_ap x_ap_ite x_len x_max x_call x_cl_f x_cl_t x_retK x_cargs_nil x_cargs_cons x_carg_f x_carg_t x_opd_t x_opd_nil x_opd_int x_opd_bool x_opd_str x_opd_nilp x_opd_func x_ev_t x_ev_int x_ev_bool x_ev_str x_ev_nilp x_ev_nil x_put x_arg_0 x_arg_s x_after b_bool b_int b_str b_nilp b_ip b_ref b_sl b_agg b_tup b_fn x_end x_endn x_res1 x_res0 x_res2 x_ress_n x_ress_c x_r1_t x_r1_c x_p_bin x_bin_s x_bin_pe x_bin_pn x_bin_be x_bin_bn x_peqp1 x_peqp3 x_peqp5 x_pb_p1 x_pb_p2 x_pb_p3 x_pb_b x_pb_add x_pb_sub x_pb_mul x_pb_and x_pb_eql x_pb_neq x_pb_lss x_pb_leq x_pb_gtr x_pb_geq x_pb_quo x_pb_rem x_pb_seq x_pb_sne x_pb_slt x_pb_sgt x_pb_sge x_pun_not x_pun_neg x_ploc_ip x_ploc_ref x_p_fld x_fld x_pl_0 x_pl_s x_ld1_i x_ld1_b x_ld1_st x_ld1_p x_ld1_sl x_ld1_o x_lda_s x_p_move x_p_pick x_p_nck x_p_idx x_p_ext x_p_build x_p_bsl x_p_slice x_pslF_t x_pslF_s x_pslG x_psl_s x_psl_t x_psl2_n x_psl3 x_bnd_n x_bnd_s x_p_cnv x_fill_n x_fill_c x_splice x_pc_agg x_pc_bool x_pc_int x_pc_str x_pc_ip x_pc_ref x_pc_sl x_chunks x_len_sl x_len_st x_plenS x_plenT x_max2 x_min2 x_nilOf x_nilF x_nilG x_papp x_pappF x_pappG x_pappHs x_pappHt x_q_nil x_qv x_q_store x_qst x_nilsOf_n x_nilsOf_c x_bu_f x_pbuN x_q_move x_q_assign x_q_move_c x_q_pick x_q_nilCheck x_q_fieldAddr x_q_indexAddr x_q_binOp x_q_convert x_q_extract x_q_build x_q_buildSlice x_q_slice x_q_append x_qap x_qm_f x_qm_t x_q_load x_q_box x_qb x_q_len x_q_max x_q_min x_q_g x_qg_tt x_qg_ff x_qg_tf x_ql_ip x_ql_ref x_qlr gnth gval Env.putO
attribute [go_sem] x_tailK_n x_tailK_c
attribute [go_sem] x_smM_sl x_smM_me x_smM_ne x_lenO_sl x_lenO_str x_lenO_m x_lenM x_delete x_dlO x_dlM mapAt_set x_clTc x_rgm x_rgM x_nextM x_nxMV x_nxM x_entry x_enV x_mkM_t x_mkM_f x_lk_m x_lkO x_lkM_f x_mu_m x_muO b_mref b_nilm x_pc_mref o_nilm x_isSl_mref
attribute [congr] vSmM_congr vLenO_congr vLenM_congr vDlO_congr vDlM_congr vRgM_congr vNxMV_congr vEnV_congr vNxM_congr vEnM_congr vMkM_congr vLkO_congr vMuO_congr
attribute [go_sem] x_makeSlice x_mks x_mkg x_callT x_clT x_range x_rg x_next x_nx x_nx2t x_nx2f x_makeMap x_lookup x_lk x_mapUpdate x_mu x_lkVf x_ofVal_b x_valOf_b b_mapo
attribute [congr] vClT_congr vRg_congr vNx_congr vNx2_congr vLk_congr vMu_congr vOwn_congr
attribute [congr] vNqV_congr
attribute [go_sem] x_assign_n x_mvn_f x_apB_f x_vw_sl x_vw_str b_np x_bin_se x_bin_sn x_peqS x_peqs_n x_peqs_c x_peqA_i x_peqA_s x_pb_agg x_pb_p4 x_peqp7 x_ploc_np
attribute [go_sem] true_and and_true and_self Option.map_some Option.bind_some List.getElem?_cons_succ List.getElem?_cons_zero List.getElem?_toArray List.drop_zero List.drop_succ_cons List.take_zero List.take_succ_cons List.length_cons List.length_nil List.cons_append List.nil_append List.append_nil Nat.zero_add List.map_cons List.map_nil decide_true decide_false Bool.not_true Bool.not_false Int.toNat_natCast List.getD_cons_zero List.getD_cons_succ Bool.or_false Bool.or_true Bool.false_or Bool.true_or ne_eq not_false_eq_true argPos Option.isSome_some Option.isSome_none Option.map_none Bool.false_eq_true beq_self_eq_true bne_self_eq_false Nat.sub_zero List.length_replicate
attribute [congr] vBu_congr vQSt_congr vNpV_congr vApB_congr vApC_congr vApD_congr vMvN_congr vTk_congr vTk2_congr vKp_congr vKeep_congr vtree_congr vopsO_congr vBnV_congr vSame_congr vQM_congr vQAp_congr vQB_congr vQV_congr vQL_congr vQLR_congr vQG_congr vwp_congr vops_congr vop_congr vPutV_congr vMv_congr vLd_congr vLdR_congr vAl_congr vBx_congr vSt_congr vStR_congr vAp_congr vAp0_congr vCl_congr vCondK_congr vopsG_congr vSkip_congr thenK_congr blockK_congr retK_congr retPost_congr PCalls_congr gval_congr vopsQ_congr afterCall_congr
end Go.VL
