/- VL, part 20: a table of types, checked against the program's own. -/
import Derived.Test.YtmedhhjbknnfkaaVL19
set_option linter.unusedVariables false
set_option linter.unusedSimpArgs false
namespace Go.VL
open Go

def relv : PV → Value → Bool
  | .undef, _ => true
  | .bool a, .bool b => a == b
  | .int k n, .int l m => decide (k = l) && decide (n = m)
  | .str s, .string t => s.data.toList == t.data.toList
  | .nilp, .pointer none => true
  | .sl _ _ [], .slice none 0 0 => true
  | .nilf, .nilFunc => true
  | .nili, .nilIface => true
  | _, _ => false
theorem relv_opn {v : PV} {u : Value} (h : relv v u = true) (g : Gh) (w : World) : Rel g w v.opn u ∧ ∀ id k0, RoomOk g w id k0 v.opn u := by
  have hr : Rel g w v u := by
    unfold relv at h
    split at h
    · exact .undef _
    · rename_i a b
      have : a = b := by simpa using h
      subst this; exact .bool _
    · simp only [Bool.and_eq_true, decide_eq_true_eq] at h
      obtain ⟨rfl, rfl⟩ := h
      exact .int _ _
    · rename_i s t
      have : s = t := by
        have h1 : s.data.toList = t.data.toList := by simpa using h
        obtain ⟨⟨l⟩⟩ := s
        obtain ⟨⟨m⟩⟩ := t
        simp at h1
        subst h1
        rfl
      subst this; exact .str _
    · exact .nilp
    · exact .slnil _ _
    · exact .nilf
    · exact .nili
    · cases h
  by_cases hs : ∃ f sz, v = .sl f sz []
  · obtain ⟨f, sz, rfl⟩ := hs
    have : u = .slice none 0 0 := by
      unfold relv at h
      split at h <;> first | rfl | contradiction | simp_all
    subst this
    exact ⟨.slnil _ _, fun _ _ => by simp [PV.opn, RoomOk]⟩
  · have : v.opn = v.bare := by
      cases v with
      | sl f sz rows =>
        cases rows with
        | nil => exact absurd ⟨f, sz, rfl⟩ hs
        | cons a b => rfl
      | _ => rfl
    rw [this]
    exact ⟨hr.bare, fun _ _ => RoomOk.bare _ _ _ _ _ _⟩
theorem relv_ok {v : PV} {u : Value} (h : relv v u = true) (g : Gh) (w : World) : Rel g w v u := by
  unfold relv at h
  split at h
  · exact .undef _
  · rename_i a b
    have : a = b := by simpa using h
    subst this; exact .bool _
  · simp only [Bool.and_eq_true, decide_eq_true_eq] at h
    obtain ⟨rfl, rfl⟩ := h
    exact .int _ _
  · rename_i s t
    have : s = t := by
      have h1 : s.data.toList = t.data.toList := by simpa using h
      obtain ⟨⟨l⟩⟩ := s
      obtain ⟨⟨m⟩⟩ := t
      simp at h1
      subst h1
      rfl
    subst this; exact .str _
  · exact .nilp
  · exact .slnil _ _
  · exact .nilf
  · exact .nili
  · cases h

def relvs : List PV → List Value → Bool
  | [], [] => true
  | v :: vs, u :: us => relv v u && u.oneCell' && relvs vs us
  | _, _ => false
theorem relv_nil {v : PV} {u : Value} (h : relv v u = true) : ∀ f sz, v = .sl f sz [] → u = .slice none 0 0 := by
  rintro f sz rfl
  unfold relv at h
  split at h <;> first | rfl | contradiction | simp_all
theorem relvs_ok : ∀ (vs : List PV) (us : List Value), relvs vs us = true → vs.length = us.length ∧ (∀ u ∈ us, u.oneCell' = true) ∧ ∀ (g : Gh) (w : World) (k : Nat) v u, vs[k]? = some v → us[k]? = some u → Rel g w v u ∧ Rel g w v.opn u ∧ (∀ id k0, RoomOk g w id k0 v.opn u) ∧ ∀ f sz, v = .sl f sz [] → u = .slice none 0 0
  | [], [], _ => ⟨rfl, by simp, by simp⟩
  | v :: vs, u :: us, h => by
    simp only [relvs, Bool.and_eq_true] at h
    obtain ⟨h1, h2, h3⟩ := relvs_ok vs us h.2
    refine ⟨by simp [h1], fun x hx => ?_, fun g w k v' u' hv hu => ?_⟩
    · rcases List.mem_cons.1 hx with rfl | hx
      · exact h.1.2
      · exact h2 x hx
    · rcases k with _ | k
      · simp at hv hu; subst hv; subst hu; exact ⟨relv_ok h.1.1 g w, (relv_opn h.1.1 g w).1, (relv_opn h.1.1 g w).2, relv_nil h.1.1⟩
      · exact h3 g w k v' u' (by simpa using hv) (by simpa using hu)
  | [], u :: us, h => by simp [relvs] at h
  | v :: vs, [], h => by simp [relvs] at h

def fieldsOf (P : Program) : List Field → Option (List (Nat × TypeId × Nat))
  | [] => some []
  | f :: fs => (match P.info? f.type, fieldsOf P fs with
    | some i, some r => some ((f.offset, f.type, i.size) :: r)
    | _, _ => none)
theorem fieldsOf_ok (P : Program) : ∀ (fs : List Field) (r : List (Nat × TypeId × Nat)), fieldsOf P fs = some r →
    fs.mapM (fun f => (P.info? f.type).map fun i => (f.offset, i.size)) = some (r.map fun x => (x.1, x.2.2)) ∧ ∀ (j : Nat) f, fs[j]? = some f → ∃ i, P.info? f.type = some i ∧ r[j]? = some (f.offset, f.type, i.size)
  | [], r, h => by injection h with h; subst h; exact ⟨rfl, by simp⟩
  | f :: fs, r, h => by
    simp only [fieldsOf] at h
    split at h
    · rename_i i r' h1 h2
      injection h with h
      subst h
      obtain ⟨q1, q2⟩ := fieldsOf_ok P fs r' h2
      refine ⟨by simp [List.mapM_cons, h1, q1], fun j g hg => ?_⟩
      rcases j with _ | j
      · simp at hg; subst hg; exact ⟨i, h1, rfl⟩
      · exact q2 j g (by simpa using hg)
    · cases h

def kindb (P : Program) : TK → TypeDesc → Bool
  | .int k, .int l => decide (k = l)
  | .bool, .bool => true
  | .str, .string => true
  | .ptr, .pointer _ => true
  | .slice e, .slice f => decide (e = f)
  | .struct fs, .struct a => (match fieldsOf P a.toList with | some r => r == fs | none => false)
  | .array n e, .array m f => decide (n = m) && decide (e = f)
  | .iface, .interface _ => true
  | .func, .func .. => true
  | .other, .map .. => true
  | .other, .tuple .. => true
  | _, _ => false
theorem kindb_ok {P : Program} {k : TK} {d : TypeDesc} (h : kindb P k d = true) : TKok P k d := by
  unfold kindb at h
  split at h
  · rename_i a b
    have : a = b := by simpa using h
    subst this; rfl
  · rfl
  · rfl
  · exact ⟨_, rfl⟩
  · rename_i a b
    have : a = b := by simpa using h
    subst this; rfl
  · rename_i fs a
    split at h
    · rename_i r hr
      have : r = fs := by simpa using h
      subst this
      obtain ⟨q1, q2⟩ := fieldsOf_ok P _ _ hr
      exact ⟨a, rfl, q1, fun j f hf => q2 j f (by rw [Array.getElem?_toList]; exact hf)⟩
    · cases h
  · simp only [Bool.and_eq_true, decide_eq_true_eq] at h
    obtain ⟨rfl, rfl⟩ := h
    rfl
  · exact ⟨_, rfl⟩
  · exact ⟨_, _, _, rfl⟩
  · exact .inl ⟨_, _, rfl⟩
  · exact .inr ⟨_, rfl⟩
  · cases h

def tib (P : Program) (t : TypeId) (ti : TI) : Bool :=
  match P.info? t, P.underlying t with
  | some i, some d => (match i.zero with
    | some z => i.size == ti.size && i.bytes == ti.bytes && z.cells.size == ti.size && ti.zero.length == ti.size && relvs ti.zero z.cells.toList && kindb P ti.k d
    | none => false)
  | _, _ => false
theorem tib_ok {P : Program} {t : TypeId} {ti : TI} (h : tib P t ti = true) : TIok P t ti := by
  unfold tib at h
  split at h
  · rename_i i d hi hd
    split at h
    · rename_i z hz
      simp only [Bool.and_eq_true, beq_iff_eq] at h
      obtain ⟨⟨⟨⟨⟨h1, h2⟩, h3⟩, h4⟩, h5⟩, h6⟩ := h
      obtain ⟨q1, q2, q3⟩ := relvs_ok _ _ h5
      refine ⟨⟨i, z, hi, h1, h2, hz, h3, q2, h4, fun g w k v u hv hu => q3 g w k v u hv (by rw [Array.getElem?_toList]; exact hu)⟩, d, hd, kindb_ok h6⟩
    · cases h
  · cases h

def eqb (P : Program) (t : TypeId) : Bool := !P.stoodInHeld t && !P.eqGuardType P.depth t && (P.fieldsOf t).toList.all fun f => f.name != "_"
theorem eqb_ok {P : Program} {t : TypeId} (h : eqb P t = true) : EqOk P t := by
  simp only [eqb, Bool.and_eq_true, Bool.not_eq_true', List.all_eq_true, bne_iff_ne, ne_eq] at h
  exact ⟨h.1.1, h.1.2, h.2⟩
def ptb (P : Program) (t : TypeId) : Bool :=
  match P.underlying t with
  | some (.pointer el) => (match P.info? el with | some i => i.size != 0 | none => false)
  | _ => false
theorem ptb_ok {P : Program} {t : TypeId} (h : ptb P t = true) : ∃ el i, P.underlying t = some (.pointer el) ∧ P.info? el = some i ∧ i.size ≠ 0 := by
  unfold ptb at h
  split at h
  · rename_i el hu
    split at h
    · rename_i i hi
      exact ⟨el, i, hu, hi, by simpa using h⟩
    · cases h
  · cases h
theorem all_ok {p : TypeId → Bool} (l : List TypeId) (h : l.all p = true) (t : TypeId) (ht : l.elem t = true) : p t = true := by
  rw [List.all_eq_true] at h
  exact h t (by simpa using ht)

def lookT (tab : List (TypeId × TI)) (t : TypeId) : Option TI :=
  match tab with
  | [] => none
  | (s, ti) :: r => if t = s then some ti else lookT r t
theorem lookT_ok {P : Program} : ∀ (tab : List (TypeId × TI)), (tab.all fun x => tib P x.1 x.2) = true → ∀ t ti, lookT tab t = some ti → TIok P t ti
  | [], _, t, ti, h => by simp [lookT] at h
  | (s, tj) :: r, ha, t, ti, h => by
    simp only [List.all_cons, Bool.and_eq_true] at ha
    simp only [lookT] at h
    split at h
    · rename_i hts
      injection h with h
      subst h; subst hts
      exact tib_ok ha.1
    · exact lookT_ok r ha.2 t ti h
end Go.VL
