/- Trees: the order of texts, and what a tree is. -/
import Derived.Test.YtmedhhjbknnfkaaVL24
set_option linter.unusedVariables false
set_option linter.unusedSimpArgs false
namespace Go.Proofs.Ytmedhhjbknnfkaa.V
open Go Go.VL

/-! ### numbers -/
theorem wrap64 {x : Int} (h1 : -9223372036854775808 ≤ x) (h2 : x ≤ 9223372036854775807) : IntKind.i64.wrap x = x := by
  rw [IntKind.wrap_i64]; omega

/-! ### texts -/
def lt (a b : ByteArray) : Bool := Op.bytesLess a.toList b.toList

theorem bl_irrefl : ∀ x : List UInt8, Op.bytesLess x x = false
  | [] => rfl
  | a :: x => by simp [Op.bytesLess, bl_irrefl x]
theorem bl_trans : ∀ x y z : List UInt8, Op.bytesLess x y = true → Op.bytesLess y z = true → Op.bytesLess x z = true
  | _, _, [], _, h => by simp [Op.bytesLess] at h
  | _, [], _ :: _, h, _ => by simp [Op.bytesLess] at h
  | [], _ :: _, _ :: _, _, _ => rfl
  | a :: x, b :: y, c :: z, h1, h2 => by
    simp only [Op.bytesLess, Bool.or_eq_true, Bool.and_eq_true, decide_eq_true_eq, beq_iff_eq] at h1 h2 ⊢
    rcases h1 with h1 | ⟨rfl, h1⟩
    · rcases h2 with h2 | ⟨rfl, h2⟩
      · exact .inl (UInt8.lt_trans h1 h2)
      · exact .inl h1
    · rcases h2 with h2 | ⟨rfl, h2⟩
      · exact .inl h2
      · exact .inr ⟨rfl, bl_trans x y z h1 h2⟩
theorem bl_tri : ∀ x y : List UInt8, Op.bytesLess x y = false → Op.bytesLess y x = false → x = y
  | [], [], _, _ => rfl
  | [], _ :: _, h, _ => by simp [Op.bytesLess] at h
  | _ :: _, [], _, h => by simp [Op.bytesLess] at h
  | a :: x, b :: y, h1, h2 => by
    simp only [Op.bytesLess, Bool.or_eq_false_iff, Bool.and_eq_false_iff, decide_eq_false_iff_not, beq_eq_false_iff_ne] at h1 h2
    have hab : a = b := by
      rcases UInt8.lt_or_lt_of_ne (a := a) (b := b) |> fun h => Classical.em (a = b) with h | h
      · exact h
      · rcases UInt8.lt_or_lt_of_ne h with h | h
        · exact absurd h h1.1
        · exact absurd h h2.1
    subst hab
    rw [bl_tri x y (h1.2.resolve_left fun h => h rfl) (h2.2.resolve_left fun h => h rfl)]

theorem toList_inj {a b : ByteArray} (h : a.toList = b.toList) : a = b := by
  rw [ByteArray.toList_eq, ByteArray.toList_eq] at h
  obtain ⟨⟨x⟩⟩ := a
  obtain ⟨⟨y⟩⟩ := b
  simp at h
  rw [h]
theorem lt_irrefl (a : ByteArray) : lt a a = false := bl_irrefl _
theorem lt_trans {a b c : ByteArray} (h1 : lt a b = true) (h2 : lt b c = true) : lt a c = true := bl_trans _ _ _ h1 h2
theorem lt_tri {a b : ByteArray} (h1 : lt a b = false) (h2 : lt b a = false) : a = b := toList_inj (bl_tri _ _ h1 h2)
theorem lt_asym {a b : ByteArray} (h : lt a b = true) : lt b a = false := by
  cases e : lt b a with
  | false => rfl
  | true => have := lt_trans h e; rw [lt_irrefl] at this; cases this
theorem lt_ne {a b : ByteArray} (h : lt a b = true) : a ≠ b := fun e => by rw [e, lt_irrefl] at h; cases h
def same (a b : ByteArray) : Bool := !lt a b && !lt b a
theorem same_iff {a b : ByteArray} : same a b = true ↔ a = b := by
  unfold same
  constructor
  · intro h
    simp only [Bool.and_eq_true, Bool.not_eq_true'] at h
    exact lt_tri h.1 h.2
  · rintro rfl
    simp [lt_irrefl]
theorem same_refl (a : ByteArray) : same a a = true := same_iff.2 rfl
theorem same_ne {a b : ByteArray} (h : a ≠ b) : same a b = false := by
  cases e : same a b with
  | false => rfl
  | true => exact absurd (same_iff.1 e) h

theorem str_lt (a b : ByteArray) : Op.bytesLess a.toList b.toList = lt a b := rfl
theorem str_eq (a b : ByteArray) : (a.toList == b.toList) = same a b := by
  by_cases h : a = b
  · rw [h, same_refl]; simp
  · rw [same_ne h, beq_eq_false_iff_ne]
    exact fun e => h (toList_inj e)
theorem str_le (a b : ByteArray) : (Op.bytesLess a.toList b.toList || a.toList == b.toList) = !lt b a := by
  rw [str_lt, str_eq]
  cases h1 : lt a b
  · cases h2 : lt b a
    · simp [same, h1, h2]
    · simp [same, h1, h2]
  · simp [lt_asym h1]
theorem lt_or_same (a b : ByteArray) : (lt a b || same a b) = !lt b a := by rw [← str_le, str_lt, str_eq]
attribute [go_sem] lt_or_same same_refl lt_irrefl
attribute [go_sem] str_lt str_eq

/-! ### trees -/
inductive T where
  | nil
  | node (k v : ByteArray) (l r : T) (d s : Int)
abbrev Pr := ByteArray × ByteArray
def T.dep : T → Int
  | .nil => 0
  | .node _ _ _ _ d _ => d
def T.siz : T → Int
  | .nil => 0
  | .node _ _ _ _ _ s => s
def T.list : T → List Pr
  | .nil => []
  | .node k v l r _ _ => l.list ++ (k, v) :: r.list
theorem dep_nil : T.nil.dep = 0 := rfl
theorem dep_node {k v : ByteArray} {l r : T} {d s : Int} : (T.node k v l r d s).dep = d := rfl
def over (l : T) (k v : ByteArray) (m : T) : T := .node k v l m (1 + max l.dep m.dep) (1 + l.siz + m.siz)
def Ok : T → Prop
  | .nil => True
  | .node k v l r d s => Ok l ∧ Ok r ∧ d = 1 + max l.dep r.dep ∧ s = 1 + l.siz + r.siz ∧ l.dep ≤ r.dep + 1 ∧ r.dep ≤ l.dep + 1

theorem ok_size : ∀ t : T, Ok t → t.siz = t.list.length ∧ 0 ≤ t.dep ∧ t.dep ≤ t.siz
  | .nil, _ => ⟨rfl, Int.le_refl _, Int.le_refl _⟩
  | .node k v l r d s, h => by
    obtain ⟨h1, h2, h3, h4, _, _⟩ := h
    obtain ⟨a1, a2, a3⟩ := ok_size l h1
    obtain ⟨b1, b2, b3⟩ := ok_size r h2
    simp only [T.siz, T.dep, T.list, List.length_append, List.length_cons]
    omega
theorem ok_over {l m : T} {k v : ByteArray} (hl : Ok l) (hm : Ok m) (h1 : l.dep ≤ m.dep + 1) (h2 : m.dep ≤ l.dep + 1) : Ok (over l k v m) := ⟨hl, hm, rfl, rfl, h1, h2⟩
theorem over_eq {l m : T} {k v : ByteArray} {d s : Int} (h : Ok (.node k v l m d s)) : over l k v m = .node k v l m d s := by
  obtain ⟨_, _, h3, h4, _, _⟩ := h
  unfold over
  rw [h3, h4]
theorem over_dep (l m : T) (k v : ByteArray) : (over l k v m).dep = 1 + max l.dep m.dep := rfl
theorem over_siz (l m : T) (k v : ByteArray) : (over l k v m).siz = 1 + l.siz + m.siz := rfl
theorem over_list (l m : T) (k v : ByteArray) : (over l k v m).list = l.list ++ (k, v) :: m.list := rfl
/-- A tree whose numbers are no more than this. -/
def FewN (n : Int) (t : T) : Prop := 0 ≤ t.dep ∧ t.dep ≤ n ∧ 0 ≤ t.siz ∧ t.siz ≤ n
def Few (t : T) : Prop := 0 ≤ t.dep ∧ t.dep ≤ 1099511627776 ∧ 0 ≤ t.siz ∧ t.siz ≤ 1099511627776
theorem ok_n {t : T} (h : Ok t) : FewN t.list.length t := by
  obtain ⟨a, b, c⟩ := ok_size t h
  unfold FewN
  omega
theorem FewN.few {n : Int} {t : T} (h : FewN n t) (hn : n ≤ 1099511627776) : Few t := by
  unfold FewN at h
  unfold Few
  omega
theorem few_over {a b : Int} {l m : T} (k v : ByteArray) (hl : FewN a l) (hm : FewN b m) : FewN (a + b + 1) (over l k v m) := by
  unfold FewN at *
  rw [over_dep, over_siz]
  omega

def enc : T → PV
  | .nil => .nilp
  | .node k v l r d s => .np [.str k, .str v, enc l, enc r, .int .i64 d, .int .i64 s]
theorem enc_bare (t : T) : (enc t).bare = enc t := by cases t <;> rfl
theorem enc_cells (t : T) : pcells (enc t) = some [enc t] := by cases t <;> rfl
theorem enc_nil : enc .nil = .nilp := rfl
theorem enc_node {l : T} {k v : ByteArray} {r : T} {d s : Int} : enc (.node k v l r d s) = .np [.str k, .str v, enc l, enc r, .int .i64 d, .int .i64 s] := rfl
theorem enc_over {l m : T} {k v : ByteArray} : enc (over l k v m) = .np [.str k, .str v, enc l, enc m, .int .i64 (1 + max l.dep m.dep), .int .i64 (1 + l.siz + m.siz)] := rfl
attribute [go_sem] enc_bare enc_cells
end Go.Proofs.Ytmedhhjbknnfkaa.V
