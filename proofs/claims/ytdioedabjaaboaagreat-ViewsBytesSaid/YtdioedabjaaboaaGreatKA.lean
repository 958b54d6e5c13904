/- Maps: the order of texts, what a tree is, sorted lists. -/
import Derived.Test.YtdioedabjaaboaaGreatVL24
set_option linter.unusedVariables false
set_option linter.unusedSimpArgs false
namespace Go.Proofs.YtdioedabjaaboaaGreat.V
open Go Go.VL

/-! ### numbers -/
theorem wrap64 {x : Int} (h1 : -9223372036854775808 ≤ x) (h2 : x ≤ 9223372036854775807) : IntKind.i64.wrap x = x := by
 rw [IntKind.wrap_i64]; omega

/-! ### texts -/
def lt (a b : ByteArray) : Bool := Op.bytesLess a.toList b.toList

theorem bl_irrefl : ∀ x : List UInt8, Op.bytesLess x x = false
 | [] => rfl
 | a :: x => by simp [Op.bytesLess, bl_irrefl x]
theorem bl_trans : ∀ x y z : List UInt8, Op.bytesLess x y = true → Op.bytesLess y z = true → Op.bytesLess x z = true
 | _, _, [], _, h => by simp [Op.bytesLess] at h
 | _, [], _ :: _, h, _ => by simp [Op.bytesLess] at h
 | [], _ :: _, _ :: _, _, _ => rfl
 | a :: x, b :: y, c :: z, h1, h2 => by
  simp only [Op.bytesLess, Bool.or_eq_true, Bool.and_eq_true, decide_eq_true_eq, beq_iff_eq] at h1 h2 ⊢
  rcases h1 with h1 | ⟨rfl, h1⟩
  ·rcases h2 with h2 | ⟨rfl, h2⟩
   ·exact .inl (UInt8.lt_trans h1 h2)
   ·exact .inl h1
  ·rcases h2 with h2 | ⟨rfl, h2⟩
   ·exact .inl h2
   ·exact .inr ⟨rfl, bl_trans x y z h1 h2⟩
theorem bl_tri : ∀ x y : List UInt8, Op.bytesLess x y = false → Op.bytesLess y x = false → x = y
 | [], [], _, _ => rfl
 | [], _ :: _, h, _ => by simp [Op.bytesLess] at h
 | _ :: _, [], _, h => by simp [Op.bytesLess] at h
 | a :: x, b :: y, h1, h2 => by
  simp only [Op.bytesLess, Bool.or_eq_false_iff, Bool.and_eq_false_iff, decide_eq_false_iff_not, beq_eq_false_iff_ne] at h1 h2
  have hab : a = b := by
   rcases UInt8.lt_or_lt_of_ne (a := a) (b := b) |> fun h => Classical.em (a = b) with h | h
   ·exact h
   ·rcases UInt8.lt_or_lt_of_ne h with h | h
    ·exact absurd h h1.1
    ·exact absurd h h2.1
  subst hab
  rw [bl_tri x y (h1.2.resolve_left fun h => h rfl) (h2.2.resolve_left fun h => h rfl)]

theorem toList_inj {a b : ByteArray} (h : a.toList = b.toList) : a = b := by
 rw [ByteArray.toList_eq, ByteArray.toList_eq] at h
 obtain ⟨⟨x⟩⟩ := a
 obtain ⟨⟨y⟩⟩ := b
 simp at h
 rw [h]
theorem lt_irrefl (a : ByteArray) : lt a a = false := bl_irrefl _
theorem lt_trans {a b c : ByteArray} (h1 : lt a b = true) (h2 : lt b c = true) : lt a c = true := bl_trans _ _ _ h1 h2
theorem lt_tri {a b : ByteArray} (h1 : lt a b = false) (h2 : lt b a = false) : a = b := toList_inj (bl_tri _ _ h1 h2)
theorem lt_asym {a b : ByteArray} (h : lt a b = true) : lt b a = false := by
 cases e : lt b a with
 | false => rfl
 | true => have := lt_trans h e; rw [lt_irrefl] at this; cases this
theorem lt_ne {a b : ByteArray} (h : lt a b = true) : a ≠ b := fun e => by rw [e, lt_irrefl] at h; cases h
def same (a b : ByteArray) : Bool := !lt a b && !lt b a
theorem same_iff {a b : ByteArray} : same a b = true ↔ a = b := by
 unfold same
 constructor
 ·intro h
  simp only [Bool.and_eq_true, Bool.not_eq_true'] at h
  exact lt_tri h.1 h.2
 ·rintro rfl
  simp [lt_irrefl]
theorem same_refl (a : ByteArray) : same a a = true := same_iff.2 rfl
theorem same_ne {a b : ByteArray} (h : a ≠ b) : same a b = false := by
 cases e : same a b with
 | false => rfl
 | true => exact absurd (same_iff.1 e) h

theorem str_lt (a b : ByteArray) : Op.bytesLess a.toList b.toList = lt a b := rfl
theorem str_eq (a b : ByteArray) : (a.toList == b.toList) = same a b := by
 by_cases h : a = b
 ·rw [h, same_refl]; simp
 ·rw [same_ne h, beq_eq_false_iff_ne]
  exact fun e => h (toList_inj e)
theorem str_le (a b : ByteArray) : (Op.bytesLess a.toList b.toList || a.toList == b.toList) = !lt b a := by
 rw [str_lt, str_eq]
 cases h1 : lt a b
 ·cases h2 : lt b a
  ·simp [same, h1, h2]
  ·simp [same, h1, h2]
 ·simp [lt_asym h1]
theorem lt_or_same (a b : ByteArray) : (lt a b || same a b) = !lt b a := by rw [← str_le, str_lt, str_eq]
attribute [go_sem] lt_or_same same_refl lt_irrefl
attribute [go_sem] str_lt str_eq
/-! ### trees -/
inductive T where
 | nil
 | node (k v : ByteArray) (l r : T) (d s : Int)
abbrev Pr := ByteArray × ByteArray
def T.dep : T → Int
 | .nil => 0
 | .node _ _ _ _ d _ => d
def T.siz : T → Int
 | .nil => 0
 | .node _ _ _ _ _ s => s
def T.list : T → List Pr
 | .nil => []
 | .node k v l r _ _ => l.list ++ (k, v) :: r.list
theorem dep_nil : T.nil.dep = 0 := rfl
theorem dep_node {k v : ByteArray} {l r : T} {d s : Int} : (T.node k v l r d s).dep = d := rfl
def over (l : T) (k v : ByteArray) (m : T) : T := .node k v l m (1 + max l.dep m.dep) (1 + l.siz + m.siz)
def Ok : T → Prop
 | .nil => True
 | .node k v l r d s => Ok l ∧ Ok r ∧ d = 1 + max l.dep r.dep ∧ s = 1 + l.siz + r.siz ∧ l.dep ≤ r.dep + 1 ∧ r.dep ≤ l.dep + 1

theorem ok_size : ∀ t : T, Ok t → t.siz = t.list.length ∧ 0 ≤ t.dep ∧ t.dep ≤ t.siz
 | .nil, _ => ⟨rfl, Int.le_refl _, Int.le_refl _⟩
 | .node k v l r d s, h => by
  obtain ⟨h1, h2, h3, h4, _, _⟩ := h
  obtain ⟨a1, a2, a3⟩ := ok_size l h1
  obtain ⟨b1, b2, b3⟩ := ok_size r h2
  simp only [T.siz, T.dep, T.list, List.length_append, List.length_cons]
  omega
theorem ok_over {l m : T} {k v : ByteArray} (hl : Ok l) (hm : Ok m) (h1 : l.dep ≤ m.dep + 1) (h2 : m.dep ≤ l.dep + 1) : Ok (over l k v m) := ⟨hl, hm, rfl, rfl, h1, h2⟩
theorem over_dep (l m : T) (k v : ByteArray) : (over l k v m).dep = 1 + max l.dep m.dep := rfl
theorem over_siz (l m : T) (k v : ByteArray) : (over l k v m).siz = 1 + l.siz + m.siz := rfl
theorem over_list (l m : T) (k v : ByteArray) : (over l k v m).list = l.list ++ (k, v) :: m.list := rfl
/-- A tree whose numbers are no more than this. -/
def FewN (n : Int) (t : T) : Prop := 0 ≤ t.dep ∧ t.dep ≤ n ∧ 0 ≤ t.siz ∧ t.siz ≤ n
def Few (t : T) : Prop := 0 ≤ t.dep ∧ t.dep ≤ 1099511627776 ∧ 0 ≤ t.siz ∧ t.siz ≤ 1099511627776
theorem ok_n {t : T} (h : Ok t) : FewN t.list.length t := by
 obtain ⟨a, b, c⟩ := ok_size t h
 unfold FewN
 omega
theorem FewN.few {n : Int} {t : T} (h : FewN n t) (hn : n ≤ 1099511627776) : Few t := by
 unfold FewN at h
 unfold Few
 omega
theorem few_over {a b : Int} {l m : T} (k v : ByteArray) (hl : FewN a l) (hm : FewN b m) : FewN (a + b + 1) (over l k v m) := by
 unfold FewN at *
 rw [over_dep, over_siz]
 omega

def enc : T → PV
 | .nil => .nilp
 | .node k v l r d s => .np [.str k, .str v, enc l, enc r, .int .i64 d, .int .i64 s]
theorem enc_bare (t : T) : (enc t).bare = enc t := by cases t <;> rfl
theorem enc_cells (t : T) : pcells (enc t) = some [enc t] := by cases t <;> rfl
theorem enc_nil : enc .nil = .nilp := rfl
theorem enc_node {l : T} {k v : ByteArray} {r : T} {d s : Int} : enc (.node k v l r d s) = .np [.str k, .str v, enc l, enc r, .int .i64 d, .int .i64 s] := rfl
theorem enc_over {l m : T} {k v : ByteArray} : enc (over l k v m) = .np [.str k, .str v, enc l, enc m, .int .i64 (1 + max l.dep m.dep), .int .i64 (1 + l.siz + m.siz)] := rfl
attribute [go_sem] enc_bare enc_cells
def Sorted (L : List Pr) : Prop := L.Pairwise fun a b => lt a.1 b.1 = true
def below (k : ByteArray) (L : List Pr) : List Pr := L.filter fun p => lt p.1 k
def above (k : ByteArray) (L : List Pr) : List Pr := L.filter fun p => lt k p.1
def look (k : ByteArray) : List Pr → Option ByteArray
 | [] => none
 | p :: L => if same p.1 k then some p.2 else look k L
def putL (k v : ByteArray) (L : List Pr) : List Pr := below k L ++ (k, v) :: above k L
def dropL (k : ByteArray) (L : List Pr) : List Pr := L.filter fun p => !same p.1 k

theorem sorted_mid {A B : List Pr} {p : Pr} (h : Sorted (A ++ p :: B)) : Sorted A ∧ Sorted B ∧ (∀ a ∈ A, lt a.1 p.1 = true) ∧ (∀ b ∈ B, lt p.1 b.1 = true) := by
 unfold Sorted at h ⊢
 rw [List.pairwise_append, List.pairwise_cons] at h
 exact ⟨h.1, h.2.1.2, fun a ha => h.2.2 a ha p (List.mem_cons_self), h.2.1.1⟩
theorem sorted_mk {A B : List Pr} {p : Pr} (hA : Sorted A) (hB : Sorted B) (h1 : ∀ a ∈ A, lt a.1 p.1 = true) (h2 : ∀ b ∈ B, lt p.1 b.1 = true) : Sorted (A ++ p :: B) := by
 unfold Sorted at *
 rw [List.pairwise_append, List.pairwise_cons]
 refine ⟨hA, ⟨h2, hB⟩, fun a ha b hb => ?_⟩
 rcases List.mem_cons.1 hb with rfl | hb
 ·exact h1 a ha
 ·exact lt_trans (h1 a ha) (h2 b hb)
theorem sorted_sub {A B : List Pr} (h : Sorted B) (hs : A.Sublist B) : Sorted A := List.Pairwise.sublist hs h
theorem sorted_below {L : List Pr} (h : Sorted L) (k : ByteArray) : Sorted (below k L) := sorted_sub h List.filter_sublist
theorem sorted_above {L : List Pr} (h : Sorted L) (k : ByteArray) : Sorted (above k L) := sorted_sub h List.filter_sublist
theorem sorted_drop {L : List Pr} (h : Sorted L) (k : ByteArray) : Sorted (dropL k L) := sorted_sub h List.filter_sublist
theorem mem_below {L : List Pr} {k : ByteArray} {p : Pr} : p ∈ below k L ↔ p ∈ L ∧ lt p.1 k = true := by simp [below]
theorem mem_above {L : List Pr} {k : ByteArray} {p : Pr} : p ∈ above k L ↔ p ∈ L ∧ lt k p.1 = true := by simp [above]
theorem sorted_put {L : List Pr} (h : Sorted L) (k v : ByteArray) : Sorted (putL k v L) :=
 sorted_mk (sorted_below h k) (sorted_above h k) (fun a ha => (mem_below.1 ha).2) (fun a ha => (mem_above.1 ha).2)
theorem below_all {A : List Pr} {k : ByteArray} (h : ∀ a ∈ A, lt a.1 k = true) : below k A = A := List.filter_eq_self.2 h
theorem above_all {A : List Pr} {k : ByteArray} (h : ∀ a ∈ A, lt k a.1 = true) : above k A = A := List.filter_eq_self.2 h
theorem below_none {A : List Pr} {k : ByteArray} (h : ∀ a ∈ A, lt a.1 k = false) : below k A = [] := List.filter_eq_nil_iff.2 (fun a ha => by rw [h a ha]; simp)
theorem above_none {A : List Pr} {k : ByteArray} (h : ∀ a ∈ A, lt k a.1 = false) : above k A = [] := List.filter_eq_nil_iff.2 (fun a ha => by rw [h a ha]; simp)
theorem below_app (k : ByteArray) (A B : List Pr) : below k (A ++ B) = below k A ++ below k B := List.filter_append ..
theorem above_app (k : ByteArray) (A B : List Pr) : above k (A ++ B) = above k A ++ above k B := List.filter_append ..
theorem below_cons (k : ByteArray) (p : Pr) (B : List Pr) : below k (p :: B) = if lt p.1 k then p :: below k B else below k B := List.filter_cons
theorem above_cons (k : ByteArray) (p : Pr) (B : List Pr) : above k (p :: B) = if lt k p.1 then p :: above k B else above k B := List.filter_cons
theorem look_app (k : ByteArray) : ∀ (A B : List Pr), look k (A ++ B) = (look k A).or (look k B)
 | [], B => rfl
 | p :: A, B => by
  simp only [List.cons_append, look]
  split
  ·rfl
  ·exact look_app k A B
theorem look_none {A : List Pr} {k : ByteArray} (h : ∀ a ∈ A, same a.1 k = false) : look k A = none := by
 induction A with
 | nil => rfl
 | cons p A ih => rw [look, h p (List.mem_cons_self)]; exact ih fun a ha => h a (List.mem_cons_of_mem _ ha)
theorem look_some {A : List Pr} {k v : ByteArray} (h : look k A = some v) : (k, v) ∈ A := by
 induction A with
 | nil => cases h
 | cons p A ih =>
  rw [look] at h
  split at h
  ·next e => injection h with h; rw [← h, ← same_iff.1 e]; exact List.mem_cons_self
  ·exact List.mem_cons_of_mem _ (ih h)

section
variable {A B : List Pr} {k v x : ByteArray}
theorem same_lt {a b : ByteArray} (h : lt a b = true) : same a b = false := same_ne (lt_ne h)
theorem same_gt {a b : ByteArray} (h : lt a b = true) : same b a = false := same_ne (fun e => lt_ne h e.symm)
theorem mid_less (h : Sorted (A ++ (k, v) :: B)) (hx : lt x k = true) :
  below x (A ++ (k, v) :: B) = below x A ∧ above x (A ++ (k, v) :: B) = above x A ++ (k, v) :: B ∧ look x (A ++ (k, v) :: B) = look x A := by
 obtain ⟨_, _, h1, h2⟩ := sorted_mid h
 have hB : ∀ b ∈ B, lt x b.1 = true := fun b hb => lt_trans hx (h2 b hb)
 refine ⟨?_, ?_, ?_⟩
 ·rw [below_app, below_cons, lt_asym hx, below_none fun b hb => lt_asym (hB b hb)]; simp
 ·rw [above_app, above_cons, hx, above_all hB]; rfl
 ·rw [look_app, look, same_gt hx, look_none fun b hb => same_gt (hB b hb)]; simp
theorem mid_more (h : Sorted (A ++ (k, v) :: B)) (hx : lt k x = true) :
  below x (A ++ (k, v) :: B) = A ++ (k, v) :: below x B ∧ above x (A ++ (k, v) :: B) = above x B ∧ look x (A ++ (k, v) :: B) = look x B := by
 obtain ⟨_, _, h1, h2⟩ := sorted_mid h
 have hA : ∀ b ∈ A, lt b.1 x = true := fun b hb => lt_trans (h1 b hb) hx
 refine ⟨?_, ?_, ?_⟩
 ·rw [below_app, below_cons, hx, below_all hA]; rfl
 ·rw [above_app, above_cons, lt_asym hx, above_none fun b hb => lt_asym (hA b hb)]; simp
 ·rw [look_app, look, same_lt hx, look_none fun b hb => same_lt (hA b hb)]; simp
theorem mid_at (h : Sorted (A ++ (k, v) :: B)) :
  below k (A ++ (k, v) :: B) = A ∧ above k (A ++ (k, v) :: B) = B ∧ look k (A ++ (k, v) :: B) = some v := by
 obtain ⟨_, _, h1, h2⟩ := sorted_mid h
 refine ⟨?_, ?_, ?_⟩
 ·rw [below_app, below_cons, lt_irrefl, below_none fun b hb => lt_asym (h2 b hb), below_all h1]; simp
 ·rw [above_app, above_cons, lt_irrefl, above_none fun b hb => lt_asym (h1 b hb), above_all h2]; simp
 ·rw [look_app, look, same_refl, look_none fun b hb => same_lt (h1 b hb)]; simp
theorem put_less (h : Sorted (A ++ (k, v) :: B)) (hx : lt x k = true) (w : ByteArray) : putL x w (A ++ (k, v) :: B) = putL x w A ++ (k, v) :: B := by
 obtain ⟨e1, e2, _⟩ := mid_less h hx
 unfold putL
 rw [e1, e2]
 simp
theorem put_more (h : Sorted (A ++ (k, v) :: B)) (hx : lt k x = true) (w : ByteArray) : putL x w (A ++ (k, v) :: B) = A ++ (k, v) :: putL x w B := by
 obtain ⟨e1, e2, _⟩ := mid_more h hx
 unfold putL
 rw [e1, e2]
 simp
theorem put_at (h : Sorted (A ++ (k, v) :: B)) (w : ByteArray) : putL k w (A ++ (k, v) :: B) = A ++ (k, w) :: B := by
 obtain ⟨e1, e2, _⟩ := mid_at h
 unfold putL
 rw [e1, e2]
end
theorem drop_two {L : List Pr} (h : Sorted L) (k : ByteArray) : dropL k L = below k L ++ above k L := by
 induction L with
 | nil => rfl
 | cons p L ih =>
  have hp := List.pairwise_cons.1 h
  have ih := ih hp.2
  unfold dropL at ih ⊢
  rw [List.filter_cons, below_cons, above_cons]
  cases h1 : lt p.1 k
  ·cases h2 : lt k p.1
   ·have e : p.1 = k := lt_tri h1 h2
    rw [e, same_refl]
    simp only [Bool.not_true, Bool.false_eq_true, if_false]
    exact ih
   ·rw [same_gt h2]
    simp only [Bool.not_false, if_true, Bool.false_eq_true, if_false]
    have hb : ∀ a ∈ L, lt k a.1 = true := fun a ha => lt_trans h2 (hp.1 a ha)
    rw [ih, below_none fun a ha => lt_asym (hb a ha)]
    rfl
  ·rw [same_lt h1, lt_asym h1]
   simp only [Bool.not_false, if_true, Bool.false_eq_true, if_false]
   rw [ih]
   rfl
theorem put_len {L : List Pr} (h : Sorted L) (k v : ByteArray) : (putL k v L).length ≤ L.length + 1 := by
 have := drop_two h k
 have h2 : (dropL k L).length ≤ L.length := List.length_filter_le _ _
 rw [this, List.length_append] at h2
 unfold putL
 simp only [List.length_append, List.length_cons]
 omega
theorem drop_len (L : List Pr) (k : ByteArray) : (dropL k L).length ≤ L.length := List.length_filter_le _ _
theorem drop_drop (L : List Pr) (k : ByteArray) (h : look k L = none) : dropL k L = L := by
 induction L with
 | nil => rfl
 | cons p L ih =>
  rw [look] at h
  unfold dropL
  rw [List.filter_cons]
  split at h
  ·cases h
  ·next e =>
   have e : same p.1 k = false := by simpa using e
   rw [e]
   simp only [Bool.not_false, if_true]
   congr 1
   exact ih h
theorem put_put {L : List Pr} (h : Sorted L) (k v : ByteArray) (hl : look k L = some v) : putL k v L = L := by
 have hm := look_some hl
 obtain ⟨A, B, rfl⟩ := List.append_of_mem hm
 exact put_at h v

end Go.Proofs.YtdioedabjaaboaaGreat.V
