/- Messages and turns compared. -/
import Derived.Test.YtpdcllhmbjnooaaRi
namespace Go.Proofs.Ytpdcllhmbjnooaa
open Go.Dc
set_option maxRecDepth 10000

theorem lodestarref03_Same_nil {Q : Cont} {w : World} (h : Q (.bool true) w) : Ret pg n_lodestarref03_Same #[.slice none 0 0, .slice none 0 0] Q w := by
  apply lodestarref03_Same_ok
  unfold lodestarref03_Same lodestarref03_Same_j0
  simp
  unfold lodestarref03_Same_j1 lodestarref03_Same_j3 lodestarref03_Same_l0
  refine loopW_intro (fun s w' => w' = w ∧ s = (.slice none 0 0, .slice none 0 0, I 0)) (fun _ _ => 0) ⟨rfl, rfl⟩ ?_
  rintro s w1 ⟨rfl, rfl⟩ next _
  unfold lodestarref03_Same_l0b
  simp
  unfold lodestarref03_Same_j2
  exact h
theorem lodestarref01_Same_nil {Q : Cont} {w : World} (h : Q (.bool true) w) : Ret pg n_lodestarref01_Same #[.slice none 0 0, .slice none 0 0] Q w := by
  apply lodestarref01_Same_ok
  unfold lodestarref01_Same lodestarref01_Same_j0
  simp
  unfold lodestarref01_Same_j1 lodestarref01_Same_j3 lodestarref01_Same_l0
  refine loopW_intro (fun s w' => w' = w ∧ s = (.slice none 0 0, .slice none 0 0, I 0)) (fun _ _ => 0) ⟨rfl, rfl⟩ ?_
  rintro s w1 ⟨rfl, rfl⟩ next _
  unfold lodestarref01_Same_l0b
  simp
  unfold lodestarref01_Same_j2
  exact h
theorem lodestarref02_Same_nil {Q : Cont} {w : World} (h : Q (.bool true) w) : Ret pg n_lodestarref02_Same #[.slice none 0 0, .slice none 0 0] Q w := by
  apply lodestarref02_Same_ok
  unfold lodestarref02_Same lodestarref02_Same_j0
  simp
  unfold lodestarref02_Same_j1 lodestarref02_Same_j3 lodestarref02_Same_l0
  refine loopW_intro (fun s w' => w' = w ∧ s = (.slice none 0 0, .slice none 0 0, I 0)) (fun _ _ => 0) ⟨rfl, rfl⟩ ?_
  rintro s w1 ⟨rfl, rfl⟩ next _
  unfold lodestarref02_Same_l0b
  simp
  unfold lodestarref02_Same_j2
  exact h
theorem lodestarref06_SameItems_nil {Q : Cont} {w : World} (h : Q (.bool true) w) : Ret pg n_lodestarref06_SameItems #[.slice none 0 0, .slice none 0 0] Q w := by
  apply lodestarref06_SameItems_ok
  unfold lodestarref06_SameItems lodestarref06_SameItems_j0
  simp
  unfold lodestarref06_SameItems_j1 lodestarref06_SameItems_j3 lodestarref06_SameItems_l0
  refine loopW_intro (fun s w' => w' = w ∧ s = (.slice none 0 0, .slice none 0 0, I 0)) (fun _ _ => 0) ⟨rfl, rfl⟩ ?_
  rintro s w1 ⟨rfl, rfl⟩ next _
  unfold lodestarref06_SameItems_l0b
  simp
  unfold lodestarref06_SameItems_j2
  exact h
theorem lodestarref06_SameChanges_nil {Q : Cont} {w : World} (h : Q (.bool true) w) : Ret pg n_lodestarref06_SameChanges #[.slice none 0 0, .slice none 0 0] Q w := by
  apply lodestarref06_SameChanges_ok
  unfold lodestarref06_SameChanges lodestarref06_SameChanges_j0
  simp
  unfold lodestarref06_SameChanges_j1 lodestarref06_SameChanges_j3 lodestarref06_SameChanges_l0
  refine loopW_intro (fun s w' => w' = w ∧ s = (.slice none 0 0, .slice none 0 0, I 0)) (fun _ _ => 0) ⟨rfl, rfl⟩ ?_
  rintro s w1 ⟨rfl, rfl⟩ next _
  unfold lodestarref06_SameChanges_l0b
  simp
  unfold lodestarref06_SameChanges_j2
  exact h

/-- A message without lists. -/
def pl (a0 a1 a2 a3 a4 a5 a21 : Int) : Msg := #[(.int .u8 a0), (.int .u32 a1), (.int .u32 a2), (.int .u64 a3), (.int .u8 a4), (.int .u32 a5), (.string ⟨#[]⟩), (.string ⟨#[]⟩), (.int .u8 0), (.int .u8 0), (.bool false), (.int .u8 0), (.int .u16 0), (.slice none 0 0), (.int .u32 0), (.slice none 0 0), (.int .u16 0), (.int .u16 0), (.slice none 0 0), (.slice none 0 0), (.slice none 0 0), (.int .u32 a21), (.int .u32 0), (.slice none 0 0), (.int .u64 0), (.slice none 0 0), (.slice none 0 0), (.slice none 0 0)]
theorem pl_KC (k c : Int) : mKC k c = pl k 0 0 0 c 0 0 := rfl
theorem pl_KN (k n : Int) : mKN k n = pl k 0 0 0 0 n 0 := rfl
theorem pl_Wel (a b n : Int) : mWel a b n = pl 2 0 a b 0 n 0 := rfl
theorem pl_Ans (r c : Int) : mAns r c = pl 24 r 0 0 c 0 0 := rfl
theorem pl_ok (a0 a1 a2 a3 a4 a5 a21 : Int) : MsgOk (pl a0 a1 a2 a3 a4 a5 a21) := ⟨rfl, one_of_all rfl⟩
def Plain (m : Msg) : Prop := ∃ a0 a1 a2 a3 a4 a5 a21, m = pl a0 a1 a2 a3 a4 a5 a21

def cz : Array Value := #[.string ⟨#[]⟩, .int .u8 0, .int .u8 0, .bool false, .int .u8 0, .int .u16 0]
theorem bo_cz (k : Cont) (w : World) : bo .eql 27 (.agg cz) (.agg cz) k w = k (.bool true) w := Run_ok (by kernel_rfl)
@[simp] theorem cv_nilBytes (k : Cont) (w : World) : cv 33 9 (.slice none 0 0) k w = k (.string ⟨#[]⟩) w := Run_ok (by kernel_rfl)
theorem SameM_spec {m : Msg} {Q : Cont} {w : World} (hpl : Plain m) (h : ∀ w', Ext [] w w' → Q (.bool true) w') : Ret pg n_lodestarref06_Same #[.agg m, .agg m] Q w := by
  obtain ⟨a0, a1, a2, a3, a4, a5, a21, rfl⟩ := hpl
  apply lodestarref06_Same_ok
  unfold lodestarref06_Same
  simp
  obtain ⟨w1, hw1⟩ : ∃ w1, w1 = (w.alloc (.cells (pl a0 a1 a2 a3 a4 a5 a21) 37)).alloc (.cells (pl a0 a1 a2 a3 a4 a5 a21) 37) := ⟨_, rfl⟩
  rw [← hw1]
  have x1 : Ext [] w w1 := by rw [hw1]; exact ((Ext.refl _ _).alloc).alloc
  have h1 : hp w1 w.heap.size = some (.cells (pl a0 a1 a2 a3 a4 a5 a21) 37 (0, 0)) := by rw [hw1]; simp
  have h2 : hp w1 (w.heap.size + 1) = some (.cells (pl a0 a1 a2 a3 a4 a5 a21) 37 (0, 0)) := by rw [hw1]; simp
  clear hw1
  unfold pl at h1 h2
  have r1 : rowOf (some (.cells #[(.int .u8 a0), (.int .u32 a1), (.int .u32 a2), (.int .u64 a3), (.int .u8 a4), (.int .u32 a5), (.string ⟨#[]⟩), (.string ⟨#[]⟩), (.int .u8 0), (.int .u8 0), (.bool false), (.int .u8 0), (.int .u16 0), (.slice none 0 0), (.int .u32 0), (.slice none 0 0), (.int .u16 0), (.int .u16 0), (.slice none 0 0), (.slice none 0 0), (.slice none 0 0), (.int .u32 a21), (.int .u32 0), (.slice none 0 0), (.int .u64 0), (.slice none 0 0), (.slice none 0 0), (.slice none 0 0)] 37 (0, 0))) 7 6 = some (.agg cz) := rfl
  unfold lodestarref06_Same_j0
  simp [h1, h2, r1, bo_cz]
  refine lodestarref06_SameChanges_nil ?_
  simp [h1, h2]
  refine lodestarref01_Same_nil ?_
  unfold lodestarref06_Same_j1
  simp [h1, h2]
  refine lodestarref03_Same_nil ?_
  simp [h1, h2]
  refine lodestarref03_Same_nil ?_
  simp [h1, h2]
  refine lodestarref03_Same_nil ?_
  simp [h1, h2]
  unfold lodestarref06_Same_j2
  simp [h1, h2]
  refine lodestarref03_Same_nil ?_
  simp [h1, h2]
  refine lodestarref06_SameItems_nil ?_
  simp [h1, h2]
  refine lodestarref02_Same_nil ?_
  exact h _ x1

theorem Ints_spec {w : World} {o1 o2 : Nat → Tag} {b1 b2 : Nat} {v1 v2 : Value} {l : List Int} {Q : Cont} (h1 : Own w o1 b1 v1 3 l.length (l.map (Value.int .i64)).toArray) (h2 : Own w o2 b2 v2 3 l.length (l.map (Value.int .i64)).toArray) (hl : l.length < 1000000)
    (h : ∀ w', Ext [] w w' → Q (.bool true) w') : Ret pg n_lodestarref11_Ints #[v1, v2] Q w := by
  apply lodestarref11_Ints_ok
  unfold lodestarref11_Ints lodestarref11_Ints_j0
  rw [h1.len43, h2.len43]
  simp
  unfold lodestarref11_Ints_j1 lodestarref11_Ints_j3 lodestarref11_Ints_l0
  refine loopW_intro (fun s w' => ∃ i : Nat, s = (v1, v2, I i) ∧ i ≤ l.length ∧ Ext [] w w') (fun s _ => match s.2.2 with | .int _ i => l.length - i.toNat | _ => 0) ⟨0, rfl, Nat.zero_le _, Ext.refl _ _⟩ ?_
  rintro s w1 ⟨i, rfl, hi, x1⟩ next hnext
  unfold lodestarref11_Ints_l0b
  rw [h1.len43]
  simp
  by_cases hlt : i < l.length
  · rw [ifB_pos (by simpa using hlt)]
    obtain ⟨c1, rfl, hc1⟩ := h1.some (by omega)
    obtain ⟨c2, rfl, hc2⟩ := h2.some (by omega)
    have hc1' := x1.at hc1 (by simp)
    have hc2' := x1.at hc2 (by simp)
    simp [hlt, hc1', hc2']
    rw [wr_i64 _ (by omega) (by omega)]
    exact hnext _ _ ⟨i + 1, rfl, by omega, x1.drw⟩ (by simp; omega)
  · rw [ifB_neg (by simpa using hlt)]
    unfold lodestarref11_Ints_j2
    exact h _ x1

theorem flat_eq {ms : List Msg} (hm : ∀ m ∈ ms, MsgOk m) : flat ms = (flatM ms).toArray := by
  induction ms with
  | nil => rfl
  | cons m ms ih =>
    have : mL m = m.toList := mL_ok (hm m (by simp)).size
    unfold flat
    rw [ih fun x hx => hm x (by simp [hx])]
    unfold flatM flatL
    simp [this]

theorem flat_row {ms : List Msg} (hm : ∀ m ∈ ms, MsgOk m) : ∀ (i : Nat) (hi : i < ms.length), rowOf (some (.cells (flat ms) 37 (0, 0))) (i * 28) 28 = some (.agg ms[i]) := by
  intro i hi
  have hf := flat_eq hm
  have hlen : (flatM ms).length = ms.length * 28 := flatL_length mL_len ms
  have h7 : i * 28 + 28 ≤ (flatM ms).toArray.size := by
    rw [List.size_toArray, hlen]
    omega
  rw [hf, rowOf_part _ _ _ _ _ h7]
  congr 2
  apply Array.ext'
  rw [Array.toList_extract]
  have h8 := flatL_row mL_len ms i ms[i] (by simp [hi])
  have : mL ms[i] = ms[i].toList := mL_ok (hm _ (List.getElem_mem hi)).size
  rw [← this, ← h8, List.extract_eq_take_drop]
  congr 1
  omega

theorem SameT_spec {w : World} {o1 o2 : Nat → Tag} {b1 b2 : Nat} {v1 v2 : Value} {t : MT} {Q : Cont} (h1 : TurnRep w o1 b1 v1 t) (h2 : TurnRep w o2 b2 v2 t) (hp : ∀ m ∈ t.out, Plain m) (hl : t.out.length < 1000000) (hs : t.shut.length < 1000000)
    (h : ∀ w', Ext [] w w' → Q (.bool true) w') : Ret pg n_lodestarref18_Same #[v1, v2] Q w := by
  obtain ⟨vo1, vs1, rfl, p1, p2⟩ := h1.at_
  obtain ⟨vo2, vs2, rfl, p3, p4⟩ := h2.at_
  apply lodestarref18_Same_ok
  unfold lodestarref18_Same
  simp
  obtain ⟨w1, hw1⟩ : ∃ w1, w1 = (w.alloc (.cells #[vo1, vs1, .bool t.do_, .int .u64 t.tok] 45)).alloc (.cells #[vo2, vs2, .bool t.do_, .int .u64 t.tok] 45) := ⟨_, rfl⟩
  rw [← hw1]
  have x1 : Ext [] w w1 := by rw [hw1]; exact ((Ext.refl _ _).alloc).alloc
  have g1 : Go.Dc.hp w1 w.heap.size = some (.cells #[vo1, vs1, .bool t.do_, .int .u64 t.tok] 45 (0, 0)) := by rw [hw1]; simp
  have g2 : Go.Dc.hp w1 (w.heap.size + 1) = some (.cells #[vo2, vs2, .bool t.do_, .int .u64 t.tok] 45 (0, 0)) := by rw [hw1]; simp
  clear hw1
  unfold lodestarref18_Same_j0
  simp [g1, g2]
  refine Ints_spec (p2.ext x1 (by simp)) (p4.ext x1 (by simp)) hs fun w2 x2 => ?_
  have k1 := x2.at g1 (by simp)
  have k2 := x2.at g2 (by simp)
  simp [k1, k2]
  rw [p1.len42]
  simp [k2]
  rw [p3.len42]
  simp
  unfold lodestarref18_Same_j4
  simp
  unfold lodestarref18_Same_j1 lodestarref18_Same_j3 lodestarref18_Same_l0
  refine loopW_intro (fun s w' => ∃ i : Nat, s = (pt w.heap.size 0, pt (w.heap.size + 1) 0, I i) ∧ i ≤ t.out.length ∧ Ext [] w2 w') (fun s _ => match s.2.2 with | .int _ i => t.out.length - i.toNat | _ => 0) ⟨0, rfl, Nat.zero_le _, Ext.refl _ _⟩ ?_
  rintro s w3 ⟨i, rfl, hi, x3⟩ next hnext
  unfold lodestarref18_Same_l0b
  have m1 := x3.at k1 (by simp)
  have m2 := x3.at k2 (by simp)
  have x13 : Ext [] w w3 := (x1.trans x2 (by simp)).trans x3 (by simp)
  simp [m1]
  rw [p1.len42]
  simp
  by_cases hlt : i < t.out.length
  · rw [ifB_pos (by simpa using hlt)]
    obtain ⟨c1, rfl, hc1⟩ := p1.some (by omega)
    obtain ⟨c2, rfl, hc2⟩ := p3.some (by omega)
    have hr1 : rowOf (Go.Dc.hp w3 c1) (i * 28) 28 = some (.agg t.out[i]) := by rw [x13.at hc1 (by simp)]; exact flat_row h1.out i hlt
    have hr2 : rowOf (Go.Dc.hp w3 c2) (i * 28) 28 = some (.agg t.out[i]) := by rw [x13.at hc2 (by simp)]; exact flat_row h1.out i hlt
    simp [m1, m2, hlt, hr1, hr2]
    refine SameM_spec (hp _ (List.getElem_mem hlt)) fun w4 x4 => ?_
    simp
    rw [wr_i64 _ (by omega) (by omega)]
    exact hnext _ _ ⟨i + 1, rfl, by omega, (x3.drw).trans x4 (by simp)⟩ (by simp; omega)
  · rw [ifB_neg (by simpa using hlt)]
    unfold lodestarref18_Same_j2
    exact h _ x13
end Go.Proofs.Ytpdcllhmbjnooaa
