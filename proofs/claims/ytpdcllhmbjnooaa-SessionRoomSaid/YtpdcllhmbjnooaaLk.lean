/- Literals of slices: one element, two. -/
import Derived.Test.YtpdcllhmbjnooaaLj
namespace Go.Dc
section
variable {P : Program}

theorem foldl_set (m : List Value) : ∀ (k o : Nat) (cs : Array Value), o + k + m.length ≤ cs.size →
    ((m.zipIdx k).foldl (fun cs (x : Value × Nat) => cs.setIfInBounds (o + x.2) x.1) cs).toList = cs.toList.take (o + k) ++ m ++ cs.toList.drop (o + k + m.length) := by
  induction m with
  | nil => intro k o cs h; simp
  | cons v m ih =>
    intro k o cs h
    simp only [List.length_cons] at h
    simp only [List.zipIdx_cons, List.foldl_cons]
    rw [ih (k + 1) o _ (by simp; omega)]
    have hk : o + k < cs.toList.length := by simp; omega
    have h1 : (cs.toList.set (o + k) v).take (o + k + 1) = cs.toList.take (o + k) ++ [v] := by
      rw [List.take_add_one, List.getElem?_set_self hk, List.take_set_of_le (Nat.le_refl _)]
      rfl
    have h2 : (cs.toList.set (o + k) v).drop (o + k + 1 + m.length) = cs.toList.drop (o + k + 1 + m.length) := List.drop_set_of_lt (by omega)
    simp only [Array.toList_setIfInBounds, List.length_cons]
    rw [show o + (k + 1) = o + k + 1 from by omega, h1, h2, show o + k + (m.length + 1) = o + k + 1 + m.length from by omega]
    simp

theorem fill_one {n : Nat} {place : Nat → Option (Nat × Nat)} (h : place 0 = some (0, n)) {cs m : Array Value} (hc : cs.size = n) (hm : m.size = n) : Instr.fill place cs [(0, .agg m)] = some m := by
  unfold Instr.fill
  simp only [h]
  have h1 : (Value.agg m).cells = m := rfl
  rw [h1, if_neg (by simp [hm, hc])]
  unfold Instr.fill
  congr 1
  have e : (m.zipIdx.foldl (fun cs (x : Value × Nat) => cs.setIfInBounds (0 + x.2) x.1) cs).toList = m.toList := by
    have := foldl_set m.toList 0 0 cs (by simp; omega)
    simp only [Nat.add_zero, Nat.zero_add, List.take_zero, List.nil_append, Array.length_toList, hm] at this
    rw [List.drop_of_length_le (by simp; omega), List.append_nil] at this
    rw [← Array.foldl_toList, Array.toList_zipIdx]
    simp only [Nat.zero_add]
    exact this
  exact Array.ext' e

theorem fill_two {n : Nat} {place : Nat → Option (Nat × Nat)} (h0 : place 0 = some (0, n)) (h1 : place 1 = some (n, n)) {cs a b : Array Value} (hc : cs.size = 2 * n) (ha : a.size = n) (hb : b.size = n) :
    Instr.fill place cs [(0, .agg a), (1, .agg b)] = some (a ++ b) := by
  unfold Instr.fill
  simp only [h0]
  have e1 : (Value.agg a).cells = a := rfl
  have e2 : (Value.agg b).cells = b := rfl
  rw [e1, if_neg (by simp [ha, hc]; omega)]
  generalize hx : Array.foldl (fun cs (x : Value × Nat) => cs.setIfInBounds (0 + x.2) x.1) cs a.zipIdx = c1
  have hx' : c1.toList = a.toList ++ cs.toList.drop n := by
    have := foldl_set a.toList 0 0 cs (by simp; omega)
    simp only [Nat.add_zero, Nat.zero_add, List.take_zero, List.nil_append, Array.length_toList, ha] at this
    rw [← hx, ← Array.foldl_toList, Array.toList_zipIdx]
    simpa using this
  have hs : c1.size = 2 * n := by
    rw [← Array.length_toList, hx']; simp; omega
  unfold Instr.fill
  simp only [h1]
  rw [e2, if_neg (by simp [hb, hs]; omega)]
  unfold Instr.fill
  congr 1
  apply Array.ext'
  have := foldl_set b.toList 0 n c1 (by simp; omega)
  simp only [Nat.add_zero, Array.length_toList, hb] at this
  rw [← Array.foldl_toList, Array.toList_zipIdx]
  simp only [this, hx', Array.toList_append]
  rw [List.take_append_of_le_length (by simp [ha]), List.take_of_length_le (by simp [ha]), List.drop_of_length_le (by simp; omega)]
  simp

theorem run_buildSlice {t e n k : Nat} {z : Value} (ht : P.underlying t = some (.slice e)) (hs : (P.info? e).map (·.size) = some n) (hz : (P.info? e).bind (·.zero) = some z) (hn : 0 < k * n) (hb : ¬ k * n > 2 ^ 24)
    {ps : Array (Nat × Value)} {cs : Array Value} (hf : ∀ c0 : Array Value, c0.size = k * n → Instr.fill (fun i => some (i * n, n)) c0 ps.toList = some cs) (w : World) :
    (Instr.buildSlice t k ps).run P w = .ok (.slice (some ⟨w.heap.size, 0, none⟩) k k) (w.alloc (.cells cs e)) := by
  have hzv : (zeroValue e).run P w = .ok z w := by
    cases hi : P.info? e with
    | none => rw [hi] at hz; cases hz
    | some inf =>
      rw [hi] at hz
      simp only [Option.bind_some] at hz
      show (Sem.bind (Sem.bind (.program .pure) _) _).run P w = _
      simp only [Sem.bind, Sem.run, hi]
      show (match inf.zero with | some v => (pure v : Sem Value) | none => _).run P w = _
      rw [hz]
      rfl
  unfold Instr.buildSlice
  simp only [bind_eq, run_bind, run_under ht, run_size hs, if_neg hb, if_neg (Nat.ne_of_gt hn), hzv, run_pure]
  rw [hf _ (by simp)]
  rfl
end
end Go.Dc
