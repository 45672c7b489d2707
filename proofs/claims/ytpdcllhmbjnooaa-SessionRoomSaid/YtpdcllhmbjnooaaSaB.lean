/- Great answers, whatever message it is given. -/
import Derived.Test.YtpdcllhmbjnooaaSeL
import Derived.Test.YtpdcllhmbjnooaaRd
namespace Go.Proofs.Ytpdcllhmbjnooaa
open Go.Dc
set_option maxRecDepth 10000

theorem Rd.slice2 {w : World} {t e : TypeId} {v : Value} (ht : pg.underlying t = some (.slice e)) (hsz : 0 < pg.cellsOf e) (h : Rd w t [v]) : ∃ ad n c, v = .slice ad n c ∧ n ≤ maxLen ∧
    (0 < n → ∃ b o, ad = some ⟨b, o, none⟩ ∧ ∀ i < n, ∃ xs, Rd w e xs ∧ xs.length = pg.cellsOf e ∧ ∀ j < pg.cellsOf e, cellOf (hp w b) (o + i * pg.cellsOf e + j) = xs[j]?) := by
  rcases h.slice ht with h | ⟨a, n, c, h1, h2, h3, h4⟩
  · simp at h
    exact ⟨none, 0, 0, h, Nat.zero_le _, fun k => by omega⟩
  · simp at h1
    refine ⟨some a, n, c, h1, by omega, fun hn => ?_⟩
    obtain ⟨b, o, h5, h6⟩ := Rd.elems hn hsz h4
    exact ⟨b, o, by rw [h5], h6⟩

theorem Great03_spec {w : World} {v : Value} {K : Cont} (h : Rd w 30 [v]) (hk : ∀ b, K (.bool b) w) : Ret pg n_lodestarref03_Great #[v] K w := by
  apply lodestarref03_Great_ok
  unfold lodestarref03_Great lodestarref03_Great_j0 lodestarref03_Great_j1 lodestarref03_Great_j3 lodestarref03_Great_l0
  obtain ⟨ad, n, c, rfl, hn, hel⟩ := h.slice2 (e := 9) (by kernel_rfl) (by decide +kernel)
  have hsz : pg.cellsOf 9 = 1 := by kernel_rfl
  have hst : pg.underlying 9 = some .string := by kernel_rfl
  unfold maxLen at hn
  refine loopW_intro (fun s w' => w' = w ∧ ∃ (a i : Int), s = (.slice ad n c, .int .i64 a, .int .i64 i) ∧ 0 ≤ i ∧ i ≤ n) (fun s _ => match s.2.2 with | .int _ i => n - i.toNat | _ => 0) ⟨rfl, 0, 0, rfl, by omega, by omega⟩ ?_
  rintro s w1 ⟨rfl, a, i, rfl, h0, h1⟩ next hnext
  unfold lodestarref03_Great_l0b
  have fin : lodestarref03_Great_j2 K (.slice ad n c) (.int .i64 a) w1 := by
    unfold lodestarref03_Great_j2
    simp
    by_cases hc : 20000 ≤ a
    · rw [ifB_pos (by simpa using hc)]; exact hk _
    · rw [ifB_neg (by simpa using hc)]; simp; exact hk _
  simp
  by_cases hi : i < n
  · rw [ifB_pos (by simpa using hi)]
    simp
    unfold lodestarref03_Great_j5
    simp
    by_cases ha : a < 20000
    · rw [ifB_pos (by simpa using ha)]
      unfold lodestarref03_Great_j4
      obtain ⟨b, o, rfl, hel2⟩ := hel (by omega)
      obtain ⟨xs, hx, hl, hcell⟩ := hel2 i.toNat (by omega)
      obtain ⟨s, rfl, hs⟩ := hx.string hst
      have hc := hcell 0 (by rw [hsz]; decide)
      rw [hsz] at hc
      simp only [Nat.mul_one, Nat.add_zero] at hc
      simp [h0, hi, hc]
      refine hnext _ _ ⟨rfl, _, _, rfl, ?_, ?_⟩ ?_
      · rw [wrap_i64 _ (by omega) (by omega)]; omega
      · rw [wrap_i64 _ (by omega) (by omega)]; omega
      · simp only
        rw [wrap_i64 _ (by omega) (by omega)]
        omega
    · rw [ifB_neg (by simpa using ha)]
      exact fin
  · rw [ifB_neg (by simpa using hi)]
    unfold lodestarref03_Great_j5
    simp
    exact fin

theorem GreatChanges_spec {w : World} {v : Value} {K : Cont} (h : Rd w 28 [v]) (hk : ∀ b, K (.bool b) w) : Ret pg n_lodestarref06_GreatChanges #[v] K w := by
  apply lodestarref06_GreatChanges_ok
  unfold lodestarref06_GreatChanges lodestarref06_GreatChanges_j0 lodestarref06_GreatChanges_j1 lodestarref06_GreatChanges_j3 lodestarref06_GreatChanges_l0
  obtain ⟨ad, n, c, rfl, hn, hel⟩ := h.slice2 (e := 123) (by kernel_rfl) (by decide +kernel)
  have hsz : pg.cellsOf 123 = 4 := by kernel_rfl
  unfold maxLen at hn
  refine loopW_intro (fun s w' => w' = w ∧ ∃ (a i : Int), s = (.slice ad n c, .int .i64 a, .int .i64 i) ∧ 0 ≤ i ∧ i ≤ n) (fun s _ => match s.2.2 with | .int _ i => n - i.toNat | _ => 0) ⟨rfl, 0, 0, rfl, by omega, by omega⟩ ?_
  rintro s w1 ⟨rfl, a, i, rfl, h0, h1⟩ next hnext
  unfold lodestarref06_GreatChanges_l0b
  have fin : lodestarref06_GreatChanges_j2 K (.int .i64 a) w1 := by
    unfold lodestarref06_GreatChanges_j2
    simp
    exact hk _
  simp
  by_cases hi : i < n
  · rw [ifB_pos (by simpa using hi)]
    simp
    unfold lodestarref06_GreatChanges_j5
    simp
    by_cases ha : a < 50000
    · rw [ifB_pos (by simpa using ha)]
      unfold lodestarref06_GreatChanges_j4
      obtain ⟨b, o, rfl, hel2⟩ := hel (by omega)
      obtain ⟨xs, hx, hl, hcell⟩ := hel2 i.toNat (by omega)
      rw [hsz] at hl hcell
      match xs, hl with
      | [y0, y1, y2, y3], _ =>
        have hit := hx.field (i := 1) (off := 1) (ft := 79) (n := 3) (by kernel_rfl)
        have hv := hit.field1 (i := 1) (off := 1) (ft := 29) (x := y2) (by kernel_rfl) rfl
        have ht := hit.field1 (i := 2) (off := 2) (ft := 30) (x := y3) (by kernel_rfl) rfl
        obtain ⟨ad2, n2, c2, rfl, _, _⟩ := hv.slice2 (e := 21) (by kernel_rfl) (by decide +kernel)
        have c2 := hcell 2 (by decide)
        have c3 := hcell 3 (by decide)
        simp at c2 c3
        simp [h0, hi, c2, c3]
        refine Great03_spec ht fun r => ?_
        cases r with
        | true => simp; exact hk _
        | false =>
          simp
          refine hnext _ _ ⟨rfl, _, _, rfl, ?_, ?_⟩ ?_
          · rw [wrap_i64 _ (by omega) (by omega)]; omega
          · rw [wrap_i64 _ (by omega) (by omega)]; omega
          · simp only
            rw [wrap_i64 _ (by omega) (by omega)]
            omega
    · rw [ifB_neg (by simpa using ha)]
      exact fin
  · rw [ifB_neg (by simpa using hi)]
    unfold lodestarref06_GreatChanges_j5
    simp
    exact fin


theorem Great_spec {w : World} {m : Msg} {K : Cont} (hok : m.size = 28) (hrd : ∀ w', Ext [] w w' → Rd w' 37 m.toList) (h : ∀ b w', Ext [] w w' → K (.bool b) w') : Ret pg n_lodestarref06_Great #[.agg m] K w := by
  apply lodestarref06_Great_ok
  unfold lodestarref06_Great
  have x1 : Ext [] w (w.alloc (.cells m 37)) := (Ext.refl _ _).alloc
  have hx : hp (w.alloc (.cells m 37)) w.heap.size = some (.cells m 37 (0, 0)) := by simp
  have hr := hrd _ x1
  simp
  generalize hW : w.alloc (.cells m 37) = w1 at *
  unfold lodestarref06_Great_j0
  have hk : ∀ b, K (.bool b) w1 := fun b => h b w1 x1
  obtain ⟨v6, g6, l6⟩ := at_of hok 6 (by decide)
  obtain ⟨v7, g7, l7⟩ := at_of hok 7 (by decide)
  obtain ⟨v13, g13, l13⟩ := at_of hok 13 (by decide)
  obtain ⟨v15, g15, l15⟩ := at_of hok 15 (by decide)
  obtain ⟨v18, g18, l18⟩ := at_of hok 18 (by decide)
  obtain ⟨v19, g19, l19⟩ := at_of hok 19 (by decide)
  obtain ⟨v20, g20, l20⟩ := at_of hok 20 (by decide)
  obtain ⟨v23, g23, l23⟩ := at_of hok 23 (by decide)
  obtain ⟨v25, g25, l25⟩ := at_of hok 25 (by decide)
  obtain ⟨v26, g26, l26⟩ := at_of hok 26 (by decide)
  obtain ⟨v27, g27, l27⟩ := at_of hok 27 (by decide)
  have r6 := hr.field1 (i := 6) (off := 6) (ft := 9) (by kernel_rfl) l6
  have r13 := hr.field1 (i := 8) (off := 13) (ft := 28) (by kernel_rfl) l13
  have r15 := hr.field1 (i := 10) (off := 15) (ft := 29) (by kernel_rfl) l15
  have r23 := hr.field1 (i := 16) (off := 23) (ft := 33) (by kernel_rfl) l23
  have r25 := hr.field1 (i := 18) (off := 25) (ft := 30) (by kernel_rfl) l25
  have r26 := hr.field1 (i := 19) (off := 26) (ft := 34) (by kernel_rfl) l26
  have r27 := hr.field1 (i := 20) (off := 27) (ft := 35) (by kernel_rfl) l27
  have rc := hr.field (i := 7) (off := 7) (ft := 27) (n := 6) (by kernel_rfl)
  have r7 := rc.field1 (i := 0) (off := 0) (ft := 9) (x := v7) (by kernel_rfl) (by simp [l7])
  have rf := hr.field (i := 13) (off := 18) (ft := 32) (n := 3) (by kernel_rfl)
  have r18 := rf.field1 (i := 0) (off := 0) (ft := 30) (x := v18) (by kernel_rfl) (by simp [l18])
  have r19 := rf.field1 (i := 1) (off := 1) (ft := 30) (x := v19) (by kernel_rfl) (by simp [l19])
  have r20 := rf.field1 (i := 2) (off := 2) (ft := 30) (x := v20) (by kernel_rfl) (by simp [l20])
  obtain ⟨s6, e6, _⟩ := r6.string (by kernel_rfl)
  obtain ⟨s7, e7, _⟩ := r7.string (by kernel_rfl)
  simp at e6 e7
  subst e6 e7
  obtain ⟨a13, n13, c13, rfl, _, _⟩ := r13.slice2 (e := 123) (by kernel_rfl) (by decide +kernel)
  obtain ⟨a15, n15, c15, rfl, _, _⟩ := r15.slice2 (e := 21) (by kernel_rfl) (by decide +kernel)
  obtain ⟨a23, n23, c23, rfl, _, _⟩ := r23.slice2 (e := 5) (by kernel_rfl) (by decide +kernel)
  obtain ⟨a26, n26, c26, rfl, hn26, hel⟩ := r26.slice2 (e := 79) (by kernel_rfl) (by decide +kernel)
  obtain ⟨a27, n27, c27, rfl, _, _⟩ := r27.slice2 (e := 190) (by kernel_rfl) (by decide +kernel)
  have hsz : pg.cellsOf 79 = 3 := by kernel_rfl
  unfold maxLen at hn26
  have fin : ∀ N : Int, lodestarref06_Great_j3 K (pt w.heap.size 0) (.int .i64 N) w1 := by
    intro N
    unfold lodestarref06_Great_j3
    simp
    by_cases hN : 50000 ≤ N
    · rw [ifB_pos (by simpa using hN)]; exact hk _
    · rw [ifB_neg (by simpa using hN)]
      simp [hx, g13]
      exact GreatChanges_spec r13 hk
  have items : ∀ N : Int, lodestarref06_Great_j2 K (pt w.heap.size 0) (.int .i64 N) w1 := by
    intro N
    unfold lodestarref06_Great_j2 lodestarref06_Great_j4 lodestarref06_Great_l0
    refine loopW_intro (fun s w' => w' = w1 ∧ ∃ (a i : Int), s = (pt w.heap.size 0, .int .i64 a, .int .i64 i) ∧ 0 ≤ i ∧ i ≤ n26) (fun s _ => match s.2.2 with | .int _ i => n26 - i.toNat | _ => 0) ⟨rfl, N, 0, rfl, by omega, by omega⟩ ?_
    rintro s w1 ⟨rfl, a, i, rfl, h0, h1⟩ next hnext
    unfold lodestarref06_Great_l0b
    simp [hx, g26]
    by_cases hi : i < n26
    · rw [ifB_pos (by simpa using hi)]
      simp
      unfold lodestarref06_Great_j6
      simp
      by_cases ha : a < 50000
      · rw [ifB_pos (by simpa using ha)]
        unfold lodestarref06_Great_j5
        obtain ⟨b, o, rfl, hel2⟩ := hel (by omega)
        obtain ⟨xs, hxr, hl, hcell⟩ := hel2 i.toNat (by omega)
        rw [hsz] at hl hcell
        match xs, hl with
        | [y0, y1, y2], _ =>
          have hv := hxr.field1 (i := 1) (off := 1) (ft := 29) (x := y1) (by kernel_rfl) rfl
          have ht := hxr.field1 (i := 2) (off := 2) (ft := 30) (x := y2) (by kernel_rfl) rfl
          obtain ⟨ad2, n2, c2, rfl, _, _⟩ := hv.slice2 (e := 21) (by kernel_rfl) (by decide +kernel)
          have c2 := hcell 1 (by decide)
          have c3 := hcell 2 (by decide)
          simp at c2 c3
          simp [hx, g26, h0, hi, c2, c3]
          refine Great03_spec ht fun r => ?_
          cases r with
          | true => simp; exact hk _
          | false =>
            simp
            refine hnext _ _ ⟨rfl, _, _, rfl, ?_, ?_⟩ ?_
            · rw [wrap_i64 _ (by omega) (by omega)]; omega
            · rw [wrap_i64 _ (by omega) (by omega)]; omega
            · simp only
              rw [wrap_i64 _ (by omega) (by omega)]
              omega
      · rw [ifB_neg (by simpa using ha)]
        exact fin _
    · rw [ifB_neg (by simpa using hi)]
      unfold lodestarref06_Great_j6
      simp
      exact fin _
  have t7 : ∀ N : Int, lodestarref06_Great_j7 K (pt w.heap.size 0) (.int .i64 N) (.bool true) w1 := by
    intro N
    unfold lodestarref06_Great_j7
    simp
    exact hk _
  have f7 : ∀ N : Int, lodestarref06_Great_j7 K (pt w.heap.size 0) (.int .i64 N) (.bool false) w1 := by
    intro N
    unfold lodestarref06_Great_j7
    simp
    exact items _
  simp [hx, g6, g7, g23, g15, g27]
  generalize IntKind.i64.wrap _ = N
  unfold lodestarref06_Great_j1
  simp
  by_cases c1 : 50000 < N
  · rw [ifB_pos (by simpa using c1)]; exact t7 _
  rw [ifB_neg (by simpa using c1)]
  simp [hx, g13]
  by_cases c2 : 400 < (n13 : Int)
  · rw [ifB_pos (by simp; omega)]; exact t7 _
  rw [ifB_neg (by simp; omega)]
  simp [hx, g26]
  by_cases c3 : 400 < (n26 : Int)
  · rw [ifB_pos (by simp; omega)]; exact t7 _
  rw [ifB_neg (by simp; omega)]
  simp [hx, g25]
  refine Great03_spec r25 fun b => ?_
  cases b with
  | true => simp; exact t7 _
  | false =>
  simp [hx, g18]
  refine Great03_spec r18 fun b => ?_
  cases b with
  | true => simp; exact t7 _
  | false =>
  simp [hx, g19]
  refine Great03_spec r19 fun b => ?_
  cases b with
  | true => simp; exact t7 _
  | false =>
  simp [hx, g20]
  refine Great03_spec r20 fun b => ?_
  cases b with
  | true => exact t7 _
  | false => exact f7 _
end Go.Proofs.Ytpdcllhmbjnooaa
