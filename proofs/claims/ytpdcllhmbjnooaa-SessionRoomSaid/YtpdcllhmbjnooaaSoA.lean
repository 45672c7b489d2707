/- Sorting a few numbers (uint64): insertion, and what calls it. -/
import Derived.Test.YtpdcllhmbjnooaaFa
import Derived.Test.YtpdcllhmbjnooaaS1
import Derived.Test.YtpdcllhmbjnooaaLm
namespace Go.Proofs.Ytpdcllhmbjnooaa
open Go.Dc
set_option maxRecDepth 10000

abbrev eU (n : Int) : Value := .int .u64 n

theorem wr_i64 (n : Int) (h0 : -9223372036854775808 ≤ n) (h : n < 9223372036854775808) : IntKind.wrap .i64 n = n := by
  unfold IntKind.wrap
  simp [IntKind.bits, IntKind.signed]
  omega

theorem Less_u64 {a b : Int} {Q : Cont} {w : World} (h : Q (.bool (decide (a < b))) w) : Ret pg n_cmp_Less_uint64 #[eU a, eU b] Q w := by
  apply cmp_Less_uint64_ok
  unfold cmp_Less_uint64
  apply cmp_isNaN_uint64_ok
  unfold cmp_isNaN_uint64
  simpa using h

theorem get_mid {α : Type} (p : List α) (y : α) (q : List α) : (p ++ y :: q)[p.length]? = some y := by simp
theorem set_mid {α : Type} (p : List α) (y z : α) (q : List α) : (p ++ y :: q).set p.length z = p ++ z :: q := by simp

/-- The block's cells are these numbers, and then others. -/
def IsU (w : World) (g : Nat) (l : List Int) (rest : List Value) : Prop := ∃ cur, hp w g = some (.cells cur 23 (0, 0)) ∧ cur.toList = l.map eU ++ rest

theorem IsU.at {w : World} {g : Nat} {p q : List Int} {y : Int} {rest : List Value} (h : IsU w g (p ++ y :: q) rest) : cellOf (hp w g) p.length = some (eU y) := by
  obtain ⟨cur, h1, h2⟩ := h
  rw [h1, cellOf_some, ← Array.getElem?_toList, h2]
  simp

theorem st_mid {w : World} {g : Nat} {p q : List Int} {x z : Int} {rest : List Value} {K : Cont} (h : IsU w g (p ++ x :: q) rest)
    (hk : ∀ w', Ext [g] w w' → w'.heap.size = w.heap.size → IsU w' g (p ++ z :: q) rest → K undef w') : st 23 (pt g p.length) (eU z) K w := by
  obtain ⟨cur, h1, h2⟩ := h
  have hlen : p.length < cur.size := by
    have := congrArg List.length h2
    simp at this
    omega
  have hg := lt_of_hp h1
  simp [h1]
  rw [objK_some (by omega)]
  simp
  refine hk _ ((Ext.refl _ _).put (.inl (by simp))) (by simp) ⟨_, by simp [hg]; rfl, ?_⟩
  simp only [Array.toList_setIfInBounds, h2]
  simp

theorem sorted_ins {p q : List Int} {y : Int} (h : (p ++ q).Pairwise (· ≤ ·)) (hq : ∀ z ∈ q, y ≤ z) (hp : ∀ z ∈ p, z ≤ y) : (p ++ y :: q).Pairwise (· ≤ ·) := by
  rw [List.pairwise_append] at h ⊢
  refine ⟨h.1, List.pairwise_cons.2 ⟨hq, h.2.1⟩, fun a ha b hb => ?_⟩
  rcases List.mem_cons.1 hb with rfl | hb
  · exact hp a ha
  · exact h.2.2 a ha b hb

theorem perm_mid (p q r : List Int) (x y : Int) : (p ++ y :: x :: q ++ r).Perm (p ++ x :: y :: q ++ r) := by
  refine List.Perm.append_right r (List.Perm.append_left p (List.Perm.swap x y q))

theorem insertion_spec {g n c : Nat} {l : List Int} {rest : List Value} {w : World} {Q : Cont} (hl : IsU w g l rest) (hn : l.length = n) (hc : n ≤ 1000000)
    (h : ∀ w' l', Ext [g] w w' → w'.heap.size = w.heap.size → IsU w' g l' rest → l'.Perm l → l'.Pairwise (· ≤ ·) → Q (.tuple #[]) w') : Ret pg n_slices_insertionSortOrdered_uint64 #[.slice (some ⟨g, 0, none⟩) n c, I 0, I n] Q w := by
  apply slices_insertionSortOrdered_uint64_ok
  unfold slices_insertionSortOrdered_uint64 slices_insertionSortOrdered_uint64_j0 slices_insertionSortOrdered_uint64_l0
  simp
  rw [wr_i64 _ (by omega) (by omega)]
  by_cases h0 : l = []
  · subst h0
    refine loopW_intro (fun s w' => w' = w ∧ s = (.slice (some ⟨g, 0, none⟩) n c, I 0, I n, I 1)) (fun _ _ => 0) ⟨rfl, rfl⟩ ?_
    rintro s w1 ⟨rfl, rfl⟩ next _
    unfold slices_insertionSortOrdered_uint64_l0b
    simp at hn ⊢
    rw [ifB_neg (by simp; omega)]
    exact h _ _ (Ext.refl _ _) rfl hl (List.Perm.refl _) List.Pairwise.nil
  obtain ⟨y0, r0, rfl⟩ := List.exists_cons_of_ne_nil h0
  refine loopW_intro (fun s w' => ∃ i : Nat, s = (.slice (some ⟨g, 0, none⟩) n c, I 0, I n, I i) ∧ 1 ≤ i ∧ i ≤ n ∧ Ext [g] w w' ∧ w'.heap.size = w.heap.size ∧ ∃ p r, p.length = i ∧ IsU w' g (p ++ r) rest ∧ (p ++ r).Perm (y0 :: r0) ∧ p.Pairwise (· ≤ ·))
    (fun s _ => match s.2.2.2 with | .int _ i => n - i.toNat | _ => 0) ⟨1, rfl, by omega, by simp at hn; omega, Ext.refl _ _, rfl, [y0], r0, rfl, hl, List.Perm.refl _, by simp⟩ ?_
  rintro s w1 ⟨i, rfl, h1, hin, x1, z1, p, r, hpi, hU, hP, hS⟩ next hnext
  unfold slices_insertionSortOrdered_uint64_l0b
  simp
  by_cases hi : i < n
  · rw [ifB_pos (by simp; omega)]
    have hlen := hP.length_eq
    simp only [List.length_append] at hlen
    have hr : r ≠ [] := by rintro rfl; simp at hlen; simp at hn; omega
    obtain ⟨y, r, rfl⟩ := List.exists_cons_of_ne_nil hr
    unfold slices_insertionSortOrdered_uint64_j1 slices_insertionSortOrdered_uint64_j3 slices_insertionSortOrdered_uint64_l1
    have done : ∀ w2 p2 q2, Ext [g] w w2 → w2.heap.size = w.heap.size → IsU w2 g (p2 ++ y :: q2 ++ r) rest → (p2 ++ y :: q2 ++ r).Perm (y0 :: r0) → (p2 ++ q2).Pairwise (· ≤ ·) → (∀ z ∈ q2, y ≤ z) → (∀ z ∈ p2, z ≤ y) → p2.length + q2.length = i →
        slices_insertionSortOrdered_uint64_j2 Q (fun x0 x1 x2 x3 => next (x0, x1, x2, x3)) (.slice (some ⟨g, 0, none⟩) n c) (I 0) (I n) (I i) w2 := by
      intro w2 p2 q2 x2 z2 hU2 hP2 hS2 hq hp hl2
      unfold slices_insertionSortOrdered_uint64_j2
      simp
      rw [wr_i64 _ (by omega) (by omega)]
      refine hnext _ _ ⟨i + 1, rfl, by omega, by omega, x2, z2, p2 ++ y :: q2, r, by simp; omega, hU2, hP2, sorted_ins hS2 hq hp⟩ (by simp; omega)
    refine loopW_intro (fun s w' => ∃ (p2 q2 : List Int), s = (.slice (some ⟨g, 0, none⟩) n c, I 0, I n, I i, I p2.length) ∧ Ext [g] w w' ∧ w'.heap.size = w.heap.size ∧ IsU w' g (p2 ++ y :: q2 ++ r) rest ∧ (p2 ++ y :: q2 ++ r).Perm (y0 :: r0) ∧
        (p2 ++ q2).Pairwise (· ≤ ·) ∧ (∀ z ∈ q2, y ≤ z) ∧ p2.length + q2.length = i)
      (fun s _ => match s.2.2.2.2 with | .int _ i => i.toNat | _ => 0) ⟨p, [], by rw [hpi], x1, z1, by simpa using hU, by simpa using hP, by simpa using hS, by simp, by simpa using hpi⟩ ?_
    rintro s w2 ⟨p2, q2, rfl, x2, z2, hU2, hP2, hS2, hq2, hl2⟩ next2 hnext2
    unfold slices_insertionSortOrdered_uint64_l1b
    simp
    by_cases hp0 : p2 = []
    · subst hp0
      rw [ifB_neg (by simp)]
      unfold slices_insertionSortOrdered_uint64_j5
      simp
      exact done _ [] q2 x2.drw z2 hU2 hP2 hS2 hq2 (by simp) hl2
    obtain ⟨p3, x, rfl⟩ : ∃ p3 x, p2 = p3 ++ [x] := ⟨p2.dropLast, p2.getLast hp0, (List.dropLast_concat_getLast hp0).symm⟩
    simp only [List.length_append, List.length_singleton] at hl2 ⊢
    rw [ifB_pos (by simp)]
    have a1 : cellOf (hp w2 g) (p3.length + 1) = some (eU y) := by
      have : IsU w2 g ((p3 ++ [x]) ++ y :: (q2 ++ r)) rest := by simpa using hU2
      simpa using this.at
    have a2 : cellOf (hp w2 g) p3.length = some (eU x) := by
      have : IsU w2 g (p3 ++ x :: (y :: q2 ++ r)) rest := by simpa using hU2
      simpa using this.at
    have e1 : (((p3.length : Nat) + 1 : Nat) : Int) - 1 = (p3.length : Int) := by omega
    simp
    rw [ifK_pos (by simp; omega)]
    simp [a1, e1]
    rw [wr_i64 _ (by omega) (by omega), ifK_pos (by simp; omega)]
    simp [a2]
    refine Less_u64 ?_
    unfold slices_insertionSortOrdered_uint64_j5
    simp
    by_cases hlt : y < x
    · rw [ifB_pos (by simpa using hlt)]
      unfold slices_insertionSortOrdered_uint64_j4
      simp [e1]
      rw [wr_i64 _ (by omega) (by omega), ifK_pos (by simp; omega)]
      simp [a2]
      rw [ifK_pos (by simp; omega)]
      simp [a1]
      rw [ifK_pos (by simp; omega)]
      have hU3 : IsU (drw (drw w2)) g ((p3 ++ [x]) ++ y :: (q2 ++ r)) rest := by simpa [IsU] using hU2
      have e3 : 0 + ((p3.length : Int) + 1).toNat * 1 = (p3 ++ [x]).length := by simp
      rw [e3]
      refine st_mid hU3 fun w3 x3 z3 hU4 => ?_
      simp [e1]
      rw [wr_i64 _ (by omega) (by omega), ifK_pos (by simp; omega)]
      have hU5 : IsU w3 g (p3 ++ x :: (x :: (q2 ++ r))) rest := by simpa using hU4
      simp only [Int.toNat_natCast, Nat.zero_add, Nat.mul_one]
      refine st_mid hU5 fun w4 x4 z4 hU6 => ?_
      simp [e1]
      rw [wr_i64 _ (by omega) (by omega)]
      refine hnext2 _ _ ⟨p3, x :: q2, rfl, (x2.drw.drw.trans x3 (by simp)).trans x4 (by simp), by rw [z4, z3]; exact z2, by simpa using hU6, ?_, by simpa using hS2, ?_, by simp; omega⟩ (by simp)
      · refine List.Perm.trans ?_ hP2
        have := perm_mid p3 q2 r x y
        simpa using this
      · intro z hz
        rcases List.mem_cons.1 hz with rfl | hz
        · omega
        · exact hq2 z hz
    · rw [ifB_neg (by simpa using hlt)]
      refine done _ (p3 ++ [x]) q2 x2.drw z2 hU2 hP2 hS2 hq2 ?_ (by simpa using hl2)
      intro z hz
      have h3 := (List.pairwise_append.1 (List.pairwise_append.1 hS2).1).2.2
      rcases List.mem_append.1 hz with hz | hz
      · have := h3 z hz x (by simp); omega
      · simp at hz; omega
  · rw [ifB_neg (by simp; omega)]
    have hr : r = [] := by
      have hlen := hP.length_eq
      simp only [List.length_append] at hlen
      exact List.eq_nil_of_length_eq_zero (by omega)
    subst hr
    simp at hU hP
    exact h _ _ x1 z1 hU hP hS

theorem pdq_spec {g n c lim : Nat} {l : List Int} {rest : List Value} {w : World} {Q : Cont} (hl : IsU w g l rest) (hn : l.length = n) (hc : n ≤ 12)
    (h : ∀ w' l', Ext [g] w w' → w'.heap.size = w.heap.size → IsU w' g l' rest → l'.Perm l → l'.Pairwise (· ≤ ·) → Q (.tuple #[]) w') : Ret pg n_slices_pdqsortOrdered_uint64 #[.slice (some ⟨g, 0, none⟩) n c, I 0, I n, I lim] Q w := by
  apply slices_pdqsortOrdered_uint64_ok
  unfold slices_pdqsortOrdered_uint64 slices_pdqsortOrdered_uint64_j0 slices_pdqsortOrdered_uint64_j1 slices_pdqsortOrdered_uint64_l0
  refine loopW_intro (fun s w' => w' = w ∧ s = (.slice (some ⟨g, 0, none⟩) n c, I 0, I n, I lim, .bool true, .bool true)) (fun _ _ => 0) ⟨rfl, rfl⟩ ?_
  rintro s w1 ⟨rfl, rfl⟩ next _
  unfold slices_pdqsortOrdered_uint64_l0b
  simp
  rw [wr_i64 _ (by omega) (by omega)]
  unfold slices_pdqsortOrdered_uint64_j2
  simp
  rw [ifB_pos (by simp; omega)]
  exact insertion_spec hl hn (by omega) h

theorem ix_read {s : ByteArray} {n : Nat} (hs : s.size = n) {i : Int} (h0 : 0 ≤ i) (h : i < n) {K : Cont} {w : World} (hk : ∀ b : Nat, b < 256 → K (.int .u8 b) w) : ix 9 (.string s) (.int .u8 i) K w := by
  have hlt : i.toNat < s.size := by omega
  have hb : s[i.toNat]? = some s[i.toNat] := by simp [hlt]
  have := run_index_str (P := pg) (t := 9) (by kernel_rfl) s .u8 i h0 hb w
  unfold ix
  rw [Run_ok this]
  exact hk _ (UInt8.toNat_lt _)

theorem Len_spec {n : Nat} (hn : n < 256) {Q : Cont} {w : World} (h : ∀ m : Nat, Q (I m) w) : Ret pg n_math_bits_Len #[.int .u64 n] Q w := by
  apply math_bits_Len_ok
  unfold math_bits_Len
  simp
  apply math_bits_Len64_ok
  unfold math_bits_Len64 math_bits_Len64_j0
  simp
  rw [ifB_neg (by simp; omega)]
  unfold math_bits_Len64_j1
  simp
  rw [ifB_neg (by simp; omega)]
  unfold math_bits_Len64_j2
  simp
  rw [ifB_neg (by simp; omega)]
  unfold math_bits_Len64_j3
  rw [cv_uint64_uint8]
  have e : IntKind.wrap .u8 (n : Int) = n := by unfold IntKind.wrap; simp [IntKind.bits, IntKind.signed]; omega
  rw [e]
  refine ix_read (n := 256) (by decide +kernel) (by omega) (by omega) fun b hb => ?_
  simp
  have e2 : IntKind.wrap .i64 (b : Int) = b := wr_i64 _ (by omega) (by omega)
  rw [e2, e2]
  exact h b

theorem Sort_spec {g n c : Nat} {l : List Int} {rest : List Value} {w : World} {Q : Cont} (hl : IsU w g l rest) (hn : l.length = n) (hc : n ≤ 12)
    (h : ∀ w' l', Ext [g] w w' → w'.heap.size = w.heap.size → IsU w' g l' rest → l'.Perm l → l'.Pairwise (· ≤ ·) → Q (.tuple #[]) w') : Ret pg n_slices_Sort_uint64_uint64 #[.slice (some ⟨g, 0, none⟩) n c] Q w := by
  apply slices_Sort_uint64_uint64_ok
  unfold slices_Sort_uint64_uint64
  simp
  have e : IntKind.wrap .u64 (n : Int) = n := by unfold IntKind.wrap; simp [IntKind.bits, IntKind.signed]; omega
  rw [e]
  refine Len_spec (by omega) fun m => ?_
  exact pdq_spec hl hn hc h

theorem Sort_nil {w : World} {Q : Cont} (h : Q (.tuple #[]) w) : Ret pg n_slices_Sort_uint64_uint64 #[.slice none 0 0] Q w := by
  apply slices_Sort_uint64_uint64_ok
  unfold slices_Sort_uint64_uint64
  simp
  have e : IntKind.wrap .u64 0 = ((0 : Nat) : Int) := by decide
  rw [e]
  refine Len_spec (by omega) fun m => ?_
  apply slices_pdqsortOrdered_uint64_ok
  unfold slices_pdqsortOrdered_uint64 slices_pdqsortOrdered_uint64_j0 slices_pdqsortOrdered_uint64_j1 slices_pdqsortOrdered_uint64_l0
  refine loopW_intro (fun s w' => w' = w ∧ s = (.slice none 0 0, I 0, I 0, I m, .bool true, .bool true)) (fun _ _ => 0) ⟨rfl, rfl⟩ ?_
  rintro s w1 ⟨rfl, rfl⟩ next _
  unfold slices_pdqsortOrdered_uint64_l0b
  simp
  rw [wr_i64 _ (by omega) (by omega)]
  unfold slices_pdqsortOrdered_uint64_j2
  simp
  apply slices_insertionSortOrdered_uint64_ok
  unfold slices_insertionSortOrdered_uint64 slices_insertionSortOrdered_uint64_j0 slices_insertionSortOrdered_uint64_l0
  simp
  rw [wr_i64 _ (by omega) (by omega)]
  refine loopW_intro (fun s w' => w' = w1 ∧ s = (.slice none 0 0, I 0, I 0, I 1)) (fun _ _ => 0) ⟨rfl, rfl⟩ ?_
  rintro s w1 ⟨rfl, rfl⟩ next _
  unfold slices_insertionSortOrdered_uint64_l0b
  simp
  exact h
end Go.Proofs.Ytpdcllhmbjnooaa
