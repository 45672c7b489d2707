/- Rows of structs: what stands where; reading and writing a cell of a row. -/
import Derived.Test.YtpdcllhmbjnooaaAp
namespace Go.Dc
section
variable {α : Type} {f : α → List Value} {z : Nat}

def flatL (f : α → List Value) (l : List α) : List Value := l.flatMap f

theorem flatL_length (hf : ∀ x, (f x).length = z) (l : List α) : (flatL f l).length = l.length * z := by
  induction l with
  | nil => simp [flatL]
  | cons x l ih =>
    unfold flatL at ih ⊢
    rw [List.flatMap_cons, List.length_append, ih, hf, List.length_cons, Nat.add_mul]
    omega

theorem flatL_get (hf : ∀ x, (f x).length = z) : ∀ (l : List α) (k j : Nat), j < z → (flatL f l)[k * z + j]? = (l[k]?).bind fun x => (f x)[j]?
  | [], k, j, _ => by simp [flatL]
  | x :: l, 0, j, hj => by
    unfold flatL
    rw [List.flatMap_cons, Nat.zero_mul, Nat.zero_add, List.getElem?_append_left (by rw [hf]; exact hj)]
    rfl
  | x :: l, k + 1, j, hj => by
    have ih := flatL_get hf l k j hj
    unfold flatL at ih ⊢
    rw [List.flatMap_cons, List.getElem?_append_right (by rw [hf, Nat.add_mul]; omega), hf, Nat.add_mul, Nat.one_mul]
    rw [show k * z + z + j - z = k * z + j from by omega, ih]
    rfl

theorem flatL_set (hf : ∀ x, (f x).length = z) : ∀ (l : List α) (k j : Nat) (x x' : α) (v : Value), j < z → l[k]? = some x → f x' = (f x).set j v → (flatL f l).set (k * z + j) v = flatL f (l.set k x')
  | [], k, j, x, x', v, _, h, _ => by simp at h
  | y :: l, 0, j, x, x', v, hj, h, hx => by
    simp at h
    subst h
    unfold flatL
    rw [List.set_cons_zero, List.flatMap_cons, List.flatMap_cons, hx, Nat.zero_mul, Nat.zero_add, List.set_append_left _ _ (by rw [hf]; exact hj)]
  | y :: l, k + 1, j, x, x', v, hj, h, hx => by
    have ih := flatL_set hf l k j x x' v hj (by simpa using h) hx
    unfold flatL at ih ⊢
    rw [List.set_cons_succ, List.flatMap_cons, List.flatMap_cons, List.set_append_right _ _ (by rw [hf, Nat.add_mul]; omega), hf]
    rw [show (k + 1) * z + j - z = k * z + j from by rw [Nat.add_mul]; omega, ih]

theorem flatL_append (l m : List α) : flatL f (l ++ m) = flatL f l ++ flatL f m := List.flatMap_append
theorem flatL_one (x : α) : flatL f [x] = f x := by simp [flatL]
theorem flatL_row (hf : ∀ x, (f x).length = z) : ∀ (l : List α) (k : Nat) (x : α), l[k]? = some x → ((flatL f l).drop (k * z)).take z = f x
  | [], k, x, h => by simp at h
  | y :: l, 0, x, h => by
    simp at h
    subst h
    unfold flatL
    rw [List.flatMap_cons, Nat.zero_mul, List.drop_zero, List.take_append_of_le_length (by rw [hf]; exact Nat.le_refl _), List.take_of_length_le (by rw [hf]; exact Nat.le_refl _)]
  | y :: l, k + 1, x, h => by
    have ih := flatL_row hf l k x (by simpa using h)
    unfold flatL at ih ⊢
    rw [List.flatMap_cons, Nat.add_mul, Nat.one_mul, Nat.add_comm (k * z) z, ← List.drop_drop, List.drop_append, hf, Nat.sub_self, List.drop_zero, List.drop_of_length_le (l := f y) (by rw [hf]; exact Nat.le_refl _), List.nil_append]
    exact ih
end

/-- A cell of a row. -/
theorem Vec.get {w : World} {base e sz : Nat} {v : Value} {n : Nat} {xs : List Value} (h : Vec w base e sz v n xs) {i : Nat} {u : Value} (hi : xs[i]? = Option.some u) :
    ∃ g cap cur, v = .slice (Option.some ⟨g, 0, none⟩) n cap ∧ hp w g = Option.some (.cells cur e (0, 0)) ∧ cur[i]? = Option.some u := by
  have hlt := (List.getElem?_eq_some_iff.1 hi).1
  rw [h.row.1] at hlt
  obtain ⟨g, cap, cur, h1, h2, h3⟩ := h.some (Nat.pos_of_ne_zero (by rintro rfl; simp at hlt))
  exact ⟨g, cap, cur, h1, h2, h3 i u hi⟩

/-- A cell of a row is another. -/
theorem Vec.put {w : World} {base e sz : Nat} {g n cap : Nat} {xs : List Value} (h : Vec w base e sz (.slice (Option.some ⟨g, 0, none⟩) n cap) n xs) {i : Nat} {u : Value} (hi : i < xs.length) {cur : Array Value} (hg : hp w g = Option.some (.cells cur e (0, 0))) :
    i < cur.size ∧ Vec (Go.Dc.put w g (.cells (cur.setIfInBounds i u) e (0, 0))) base e sz (.slice (Option.some ⟨g, 0, none⟩) n cap) n (xs.set i u) := by
  rcases h.row.2 with ⟨h0, _⟩ | ⟨g', cap', cur', h0, h1, h2, h3, h4, h5, h6⟩
  · cases h0
  · injection h0 with h0 _ h0'
    injection h0 with h0
    injection h0 with h0
    subst h0 h0'
    have h2' : hp w g = Option.some (.cells cur' e (0, 0)) := h2
    rw [hg] at h2'
    injection h2' with h2'
    injection h2' with h2' _
    subst h2'
    have hlen := h.row.1
    have hle : n * sz ≤ cap * sz := Nat.mul_le_mul_right _ h3
    refine ⟨by omega, ⟨by simpa using hlen, .inr ⟨g, cap, cur.setIfInBounds i u, rfl, h1, ?_, h3, h4, by simpa using h5, ?_⟩⟩⟩
    · have := hp_put w g (.cells (cur.setIfInBounds i u) e (0, 0)) g
      rw [if_pos rfl, if_pos (lt_of_hp hg)] at this
      exact this
    · rw [Array.toList_setIfInBounds, ← h6, List.take_set]

/-- A struct of a row. -/
theorem Vec.rowAt {α : Type} {f : α → List Value} {z : Nat} (hf : ∀ x, (f x).length = z) {w : World} {base e : Nat} {v : Value} {l : List α} (h : Vec w base e z v l.length (flatL f l)) {k : Nat} {x : α} (hk : l[k]? = Option.some x) :
    ∃ g cap cur, v = .slice (Option.some ⟨g, 0, none⟩) l.length cap ∧ hp w g = Option.some (.cells cur e (0, 0)) ∧ rowOf (Option.some (.cells cur e (0, 0))) (k * z) z = Option.some (.agg (f x).toArray) := by
  have hkl := (List.getElem?_eq_some_iff.1 hk).1
  rcases h.row.2 with ⟨_, h2⟩ | ⟨g', cap', cur, h2, _, h3, h4, _, h5, h6⟩
  · omega
  · refine ⟨g', cap', cur, h2, h3, ?_⟩
    have h7 : k * z + z ≤ cur.size := by
      rw [h5]
      have : (k + 1) * z ≤ cap' * z := Nat.mul_le_mul_right _ (by omega)
      rwa [Nat.add_mul, Nat.one_mul] at this
    rw [rowOf_part _ _ _ _ _ h7]
    congr 2
    apply Array.ext'
    rw [Array.toList_extract]
    have h8 := flatL_row hf _ k x hk
    rw [← h6] at h8
    rw [← h8, List.extract_eq_take_drop]
    simp only [List.drop_take, List.take_take]
    congr 1
    have : (k + 1) * z ≤ l.length * z := Nat.mul_le_mul_right _ (by omega)
    rw [Nat.add_mul, Nat.one_mul] at this
    omega
end Go.Dc
