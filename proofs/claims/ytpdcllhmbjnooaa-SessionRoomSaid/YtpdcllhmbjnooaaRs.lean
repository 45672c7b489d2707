/- SessionPlays: whatever the ops, both hubs do the same. -/
import Derived.Test.YtpdcllhmbjnooaaRr
namespace Go.Proofs.Ytpdcllhmbjnooaa
open Go.Dc
set_option maxRecDepth 10000

theorem SessionPlays_spec {caps away : Nat} {size : Int} {v : Value} {W : World} {Q : Cont} (hc : caps < 4294967296) (ha : away < 4294967296) (hrd : ∀ w', Ext [] W w' → Rd w' 62 [v])
    (h : ∀ w', Ext [] W w' → Q (.bool true) w') : Ret pg n_lodestarlaw18_SessionPlays #[.int .u32 caps, .int .i64 size, .int .u32 away, v] Q W := by
  apply lodestarlaw18_SessionPlays_ok
  unfold lodestarlaw18_SessionPlays lodestarlaw18_SessionPlays_j0
  refine alive_spec fun w1 x1 => ?_
  simp
  unfold lodestarlaw18_SessionPlays_j1
  refine Begin_spec hc ha fun w2 x bi2 x2 hf2 => ?_
  have L2 : Law W w2 x 0 := ⟨bi2, x1.trans x2 (by simp), fun b hb => hf2 b (by have := x1.size; omega)⟩
  obtain ⟨ad, n, c, hv, hn, hel⟩ := ops_of (hrd W (Ext.refl _ _))
  unfold maxLen at hn
  clear bi2 x2 hf2 x1
  unfold lodestarlaw18_SessionPlays_j2 lodestarlaw18_SessionPlays_j4 lodestarlaw18_SessionPlays_l0
  refine loopW_intro (fun s w' => ∃ (i : Nat) (y : Bo), s = (v, pt y.blk 0, I i) ∧ i ≤ n ∧ i ≤ 80 ∧ Law W w' y (2 * i)) (fun s _ => match s.2.2 with | .int _ i => n - i.toNat | _ => 0) ⟨0, x, rfl, Nat.zero_le _, Nat.zero_le _, L2⟩ ?_
  rintro s w3 ⟨i, y, rfl, hi, hi80, L3⟩ next hnext
  have fin : lodestarlaw18_SessionPlays_j3 Q w3 := h w3 L3.ext
  unfold lodestarlaw18_SessionPlays_l0b
  rw [hv] at hnext ⊢
  simp
  by_cases hlt : i < n
  · rw [ifB_pos (by simpa using hlt)]
    simp
    unfold lodestarlaw18_SessionPlays_j9
    by_cases h80 : i < 80
    · rw [iteW_bool, ifB_pos (by simp; omega)]
      obtain ⟨b, o, rfl, _⟩ := hel (by omega)
      unfold lodestarlaw18_SessionPlays_j5
      obtain ⟨p, m, hO, hgr⟩ := great_op (Q := fun v11 => iteW v11 (Q (.bool true)) (lodestarlaw18_SessionPlays_j7 Q (fun x0 x1 x2 => next (x0, x1, x2)) (.slice (some ⟨b, o, none⟩) n c) (pt y.blk 0) (I i))) hrd hv hlt L3 fun e p m w4 hO4 L4 => by
        cases e with
        | true => simp; exact h w4 L4.ext
        | false =>
          simp
          obtain ⟨kind, conn, f, num, ahead, tell, hop, hnum⟩ := hO4.ex
          unfold lodestarlaw18_SessionPlays_j7
          have hrow := hO4.row
          simp [hlt, hrow]
          refine Do_spec L4.bi (by omega) hop hnum fun w5 y5 bi5 st5 => ?_
          have L5 := L4.step bi5 st5
          simp
          rw [← st5.blk]
          refine Same_spec L5.bi (by omega) fun w6 y6 bi6 st6 _ => ?_
          have L6 := L5.step bi6 st6
          simp
          unfold lodestarlaw18_SessionPlays_j8 lodestarlaw18_SessionPlays_j6
          simp
          rw [wr_i64 _ (by omega) (by omega), ← st6.blk]
          exact hnext _ _ ⟨i + 1, y6, rfl, by omega, by omega, L6⟩ (by simp; omega)
      have hmsg := hO.msg
      simp [hlt, hmsg]
      exact hgr
    · rw [iteW_bool, ifB_neg (by simp; omega)]
      exact fin
  · rw [ifB_neg (by simpa using hlt)]
    unfold lodestarlaw18_SessionPlays_j9
    rw [iteW_bool, ifB_neg (by simp)]
    exact fin
/-- A list's reading, with nothing left of the frame's. -/
theorem rd_ops {H : Type} {enc : TypeId × Value → H} {W : World} {base : Nat} {v : Value} {d : DataW H} {ps : List MemPlace} {sp : Nat → Bool} (ho : v.oneCell' = true) (h : DataW.Trod enc pg W base sp true 62 v d ps) (hb : base = 0) : Rd W 62 [v] := by
  subst hb
  obtain ⟨fuel, hf⟩ := h
  have e : v.cells = #[v] := by
    cases v <;> first | rfl | cases ho
  rw [e] at hf
  exact ⟨H, enc, _, fuel, d, ps, hf⟩
end Go.Proofs.Ytpdcllhmbjnooaa
