/- A list of ops, as it lies in the argument's memory. -/
import Derived.Test.YtpdcllhmbjnooaaRp
import Derived.Test.YtpdcllhmbjnooaaSaB
import Derived.Test.YtpdcllhmbjnooaaFr
namespace Go.Proofs.Ytpdcllhmbjnooaa
open Go.Dc
set_option maxRecDepth 10000

theorem Rd.bool {w : World} {t : TypeId} {cs : List Value} (ht : pg.underlying t = some .bool) (h : Rd w t cs) : ∃ b, cs = [.bool b] := by
  obtain ⟨H, enc, spare, fuel, d, ps, h⟩ := h
  cases fuel with
  | zero => simp [DataW.trod] at h
  | succ fuel =>
    unfold DataW.trod at h
    rw [ht] at h
    match cs, h with
    | [.bool b], h => exact ⟨b, rfl⟩

noncomputable def leafB (t : TypeId) : Bool :=
  match pg.underlying t with
  | some (.int _) => true
  | some .string => true
  | some .bool => true
  | some (.slice _) => true
  | _ => false
def Ones (t : TypeId) : Prop := ∀ w cs, Rd w t cs → ∀ v ∈ cs, v.oneCell' = true
theorem Ones.leaf {t : TypeId} (h : leafB t = true) : Ones t := by
  intro w cs hr v hv
  unfold leafB at h
  split at h
  · rename_i hu
    obtain ⟨n, rfl, _⟩ := hr.int hu
    simp at hv; rw [hv]; rfl
  · rename_i hu
    obtain ⟨n, rfl, _⟩ := hr.string hu
    simp at hv; rw [hv]; rfl
  · rename_i hu
    obtain ⟨n, rfl⟩ := Rd.bool hu hr
    simp at hv; rw [hv]; rfl
  · rename_i hu
    rcases hr.slice hu with rfl | ⟨a, n, c, rfl, _⟩
    · simp at hv; rw [hv]; rfl
    · simp at hv; rw [hv]; rfl
  · cases h
theorem Ones.struct {t : TypeId} {fs : Array Field} (ht : pg.underlying t = some (.struct fs)) (hf : ∀ f ∈ fs.toList, Ones f.type)
    (hc : (List.range (pg.cellsOf t)).all (fun j => fs.toList.any fun f => decide (f.offset ≤ j) && decide (j < f.offset + pg.cellsOf f.type)) = true) : Ones t := by
  intro w cs hr v hv
  obtain ⟨hl, hfs⟩ := hr.struct ht
  obtain ⟨j, hj, rfl⟩ := List.mem_iff_getElem.1 hv
  have h1 := List.all_eq_true.1 hc j (List.mem_range.2 (by omega))
  obtain ⟨f, hfm, h2⟩ := List.any_eq_true.1 h1
  simp at h2
  refine hf f hfm w _ (hfs f hfm) _ ?_
  refine List.mem_iff_getElem?.2 ⟨j - f.offset, ?_⟩
  rw [List.getElem?_take, if_pos (by omega), List.getElem?_drop]
  rw [List.getElem?_eq_some_iff]
  have e : f.offset + (j - f.offset) = j := by omega
  refine ⟨by omega, ?_⟩
  congr 1

theorem row_of_cells {o : Option Obj} {i n : Nat} {xs : List Value} (hn : 0 < n) (hl : xs.length = n) (h : ∀ j < n, cellOf o (i + j) = xs[j]?) : rowOf o i n = some (.agg xs.toArray) := by
  have h0 := h 0 hn
  rw [List.getElem?_eq_getElem (by omega)] at h0
  unfold cellOf at h0
  split at h0
  · rename_i c T fr
    have hlast := h (n - 1) (by omega)
    rw [List.getElem?_eq_getElem (by omega)] at hlast
    have hsz := (Array.getElem?_eq_some_iff.1 hlast).1
    have ex : c.extract i (i + n) = xs.toArray := by
      apply Array.ext_getElem?
      intro j
      by_cases hj : j < n
      · have := h j hj
        simp only [cellOf_some] at this
        rw [Array.getElem?_extract, if_pos (by omega), this]
        simp
      · rw [Array.getElem?_eq_none (by simp; omega), Array.getElem?_eq_none (by simp; omega)]
    show (if i = 0 ∧ c.size = n then some (Value.agg c) else if i + n ≤ c.size then some (.agg (c.extract i (i + n))) else none) = _
    by_cases hw : i = 0 ∧ c.size = n
    · rw [if_pos hw]
      obtain ⟨rfl, hs⟩ := hw
      rw [← ex, ← hs]
      simp
    · rw [if_neg hw, if_pos (by omega), ex]
  · cases h0

theorem ones27 : Ones 27 := Ones.struct Try.underlying27 (fun f hf => Ones.leaf (List.all_eq_true.1 (by kernel_rfl : (Array.toList _).all (fun f : Field => leafB f.type) = true) f hf)) (by kernel_rfl)
theorem ones32 : Ones 32 := Ones.struct Try.underlying32 (fun f hf => Ones.leaf (List.all_eq_true.1 (by kernel_rfl : (Array.toList _).all (fun f : Field => leafB f.type) = true) f hf)) (by kernel_rfl)
theorem ones37 : Ones 37 := Ones.struct Try.underlying37 (fun f hf => by
  have h := List.all_eq_true.1 (by kernel_rfl : (Array.toList _).all (fun f : Field => leafB f.type || (f.type == 27 || f.type == 32)) = true) f hf
  rcases Bool.or_eq_true_iff.1 h with h | h
  · exact Ones.leaf h
  · rcases Bool.or_eq_true_iff.1 h with h | h
    · rw [eq_of_beq h]; exact ones27
    · rw [eq_of_beq h]; exact ones32) (by kernel_rfl)
theorem ones66 : Ones 66 := Ones.struct Try.underlying66 (fun f hf => by
  have h := List.all_eq_true.1 (by kernel_rfl : (Array.toList _).all (fun f : Field => leafB f.type || f.type == 37) = true) f hf
  rcases Bool.or_eq_true_iff.1 h with h | h
  · exact Ones.leaf h
  · rw [eq_of_beq h]; exact ones37) (by kernel_rfl)

/-- What a message in memory is. -/
theorem mf_of {W : World} {m : Msg} (hr : Rd W 37 m.toList) (h28 : m.size = 28) : ∃ f num, MsgF m f ∧ m[21]? = some (.int .u32 num) ∧ (num : Nat) < 4294967296 := by
  have one : ∀ v ∈ m, v.oneCell' = true := fun v hv => ones37 _ _ hr v (by simpa using hv)
  obtain ⟨v0, g0, l0⟩ := at_of h28 0 (by decide)
  obtain ⟨v1, g1, l1⟩ := at_of h28 1 (by decide)
  obtain ⟨v2, g2, l2⟩ := at_of h28 2 (by decide)
  obtain ⟨v3, g3, l3⟩ := at_of h28 3 (by decide)
  obtain ⟨v5, g5, l5⟩ := at_of h28 5 (by decide)
  obtain ⟨v21, g21, l21⟩ := at_of h28 21 (by decide)
  obtain ⟨n0, e0, w0⟩ := (hr.field1 (i := 0) (off := 0) (ft := 5) (by kernel_rfl) l0).int (k := .u8) (by kernel_rfl)
  obtain ⟨n1, e1, w1⟩ := (hr.field1 (i := 1) (off := 1) (ft := 22) (by kernel_rfl) l1).int (k := .u32) (by kernel_rfl)
  obtain ⟨n2, e2, w2⟩ := (hr.field1 (i := 2) (off := 2) (ft := 22) (by kernel_rfl) l2).int (k := .u32) (by kernel_rfl)
  obtain ⟨n3, e3, w3⟩ := (hr.field1 (i := 3) (off := 3) (ft := 23) (by kernel_rfl) l3).int (k := .u64) (by kernel_rfl)
  obtain ⟨n5, e5, w5⟩ := (hr.field1 (i := 5) (off := 5) (ft := 22) (by kernel_rfl) l5).int (k := .u32) (by kernel_rfl)
  obtain ⟨n21, e21, w21⟩ := (hr.field1 (i := 14) (off := 21) (ft := 22) (by kernel_rfl) l21).int (k := .u32) (by kernel_rfl)
  simp at e0 e1 e2 e3 e5 e21
  subst e0 e1 e2 e3 e5 e21
  have b0 : 0 ≤ n0 ∧ n0 ≤ 255 := bounds_u8 w0
  have b1 : 0 ≤ n1 ∧ n1 ≤ 4294967295 := bounds_u32 w1
  have b2 : 0 ≤ n2 ∧ n2 ≤ 4294967295 := bounds_u32 w2
  have b3 : 0 ≤ n3 ∧ n3 ≤ 18446744073709551615 := bounds_u64 w3
  have b5 : 0 ≤ n5 ∧ n5 ≤ 4294967295 := bounds_u32 w5
  have b21 : 0 ≤ n21 ∧ n21 ≤ 4294967295 := bounds_u32 w21
  have c : ∀ {n : Int}, 0 ≤ n → n = (n.toNat : Int) := fun h => (Int.toNat_of_nonneg h).symm
  refine ⟨⟨n0.toNat, n1.toNat, n2.toNat, n3.toNat, n5.toNat⟩, n21.toNat, ⟨⟨h28, one⟩, ?_, ?_, ?_, ?_, ?_, ?_, ?_, ?_, ?_, ?_⟩, ?_, ?_⟩
  · rw [g0, c b0.1]; rfl
  · rw [g1, c b1.1]; rfl
  · rw [g2, c b2.1]; rfl
  · rw [g3, c b3.1]; rfl
  · rw [g5, c b5.1]; rfl
  · simp only; omega
  · simp only; omega
  · simp only; omega
  · simp only; omega
  · simp only; omega
  · rw [g21, c b21.1]; rfl
  · omega

structure OpAt (w : World) (b i : Nat) (o : Array Value) (m : Msg) : Prop where
  ex : ∃ kind conn f num ahead tell, OpF o kind conn m f num ahead tell ∧ num < 4294967296
  row : rowOf (hp w b) i 32 = some (.agg o)
  msg : rowOf (hp w b) (i + 2) 28 = some (.agg m)
  rd : Rd w 37 m.toList
  sz : m.size = 28

theorem op_of {w : World} {b i : Nat} {xs : List Value} (h : Rd w 66 xs) (hl : xs.length = 32) (hc : ∀ j < 32, cellOf (hp w b) (i + j) = xs[j]?) : ∃ m, OpAt w b i xs.toArray m := by
  have hm : Rd w 37 ((xs.drop 2).take 28) := h.field (i := 2) (off := 2) (ft := 37) (n := 28) (by kernel_rfl)
  have hml : ((xs.drop 2).take 28).length = 28 := by simp [hl]
  obtain ⟨f, num, hmf, h21, hn⟩ := mf_of (m := ((xs.drop 2).take 28).toArray) (by simpa using hm) (by simpa using hml)
  have g : ∀ j (hj : j < 32), xs[j]? = some (xs[j]'(by omega)) := fun j hj => List.getElem?_eq_getElem (by omega)
  obtain ⟨n0, e0, w0⟩ := (h.field1 (i := 0) (off := 0) (ft := 5) (by kernel_rfl) (g 0 (by decide))).int (k := .u8) (by kernel_rfl)
  obtain ⟨n1, e1, w1⟩ := (h.field1 (i := 1) (off := 1) (ft := 3) (by kernel_rfl) (g 1 (by decide))).int (k := .i64) (by kernel_rfl)
  obtain ⟨n3, e3, w3⟩ := (h.field1 (i := 3) (off := 30) (ft := 22) (by kernel_rfl) (g 30 (by decide))).int (k := .u32) (by kernel_rfl)
  obtain ⟨b4, e4⟩ := Rd.bool (by kernel_rfl) (h.field1 (i := 4) (off := 31) (ft := 4) (by kernel_rfl) (g 31 (by decide)))
  have b0 : 0 ≤ n0 ∧ n0 ≤ 255 := bounds_u8 w0
  have b3 : 0 ≤ n3 ∧ n3 ≤ 4294967295 := bounds_u32 w3
  have c : ∀ {n : Int}, 0 ≤ n → n = (n.toNat : Int) := fun h => (Int.toNat_of_nonneg h).symm
  simp at e0 e1 e3 e4
  refine ⟨((xs.drop 2).take 28).toArray, ⟨n0.toNat, n1, f, num, n3.toNat, b4, ⟨by simpa using hl, fun v hv => ones66 _ _ h v (by simpa using hv), ?_, ?_, ?_, hmf, h21, ?_, ?_, by omega, by omega⟩, hn⟩, row_of_cells (by decide) hl hc, row_of_cells (by decide) hml fun j hj => ?_, by simpa using hm, by simpa using hml⟩
  · rw [List.getElem?_toArray, g 0 (by decide), e0, c b0.1]; rfl
  · rw [List.getElem?_toArray, g 1 (by decide), e1]
  · simp
  · rw [List.getElem?_toArray, g 30 (by decide), e3, c b3.1]; rfl
  · rw [List.getElem?_toArray, g 31 (by decide), e4]
  · rw [Nat.add_assoc, hc (2 + j) (by omega), List.getElem?_take, if_pos hj, List.getElem?_drop]

/-- The list of ops. -/
theorem ops_of {w : World} {v : Value} (h : Rd w 62 [v]) : ∃ ad n c, v = .slice ad n c ∧ n ≤ maxLen ∧ (0 < n → ∃ b o, ad = some ⟨b, o, none⟩ ∧ ∀ i < n, ∃ p m, OpAt w b (o + i * 32) p m) := by
  have hsz : pg.cellsOf 66 = 32 := by kernel_rfl
  obtain ⟨ad, n, c, h1, h2, h3⟩ := h.slice2 (e := 66) (by kernel_rfl) (by decide +kernel)
  refine ⟨ad, n, c, h1, h2, fun hn => ?_⟩
  obtain ⟨b, o, h4, h5⟩ := h3 hn
  refine ⟨b, o, h4, fun i hi => ?_⟩
  obtain ⟨xs, h6, h7, h8⟩ := h5 i hi
  rw [hsz] at h7 h8
  obtain ⟨m, hm⟩ := op_of (b := b) (i := o + i * 32) h6 h7 h8
  exact ⟨_, m, hm⟩
end Go.Proofs.Ytpdcllhmbjnooaa
