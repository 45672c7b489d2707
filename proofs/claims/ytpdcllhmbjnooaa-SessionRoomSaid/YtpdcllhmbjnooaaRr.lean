/- SessionPlays: whatever the ops, both hubs do the same. -/
import Derived.Test.YtpdcllhmbjnooaaRq
namespace Go.Proofs.Ytpdcllhmbjnooaa
open Go.Dc
set_option maxRecDepth 10000

theorem Begin_spec {caps away : Nat} {size : Int} {w : World} {Q : Cont} (hc : caps < 4294967296) (ha : away < 4294967296)
    (h : ∀ w' x, BI w' x 0 → Ext [] w w' → (∀ b, b < w.heap.size → x.free b) → Q (pt x.blk 0) w') : Ret pg n_lodestarlaw18_Begin #[.int .u32 caps, .int .i64 size, .int .u32 away] Q w := by
  apply lodestarlaw18_Begin_ok
  unfold lodestarlaw18_Begin
  refine New_spec hc ha fun w1 g x1 hr hw ho hg => ?_
  simp
  obtain ⟨r, hr0⟩ : ∃ r : Rh, r = ⟨w1.heap.size, caps, size, away, 0, .slice none 0 0, [], .slice none 0 0, [], fun b => if b = w1.heap.size then .hub 0 else .none⟩ := ⟨_, rfl⟩
  obtain ⟨w2, hw2⟩ : ∃ w2, w2 = w1.alloc (.cells r.cells 75) := ⟨_, rfl⟩
  have e2 : w1.alloc (.cells #[.int .u32 caps, .int .i64 size, .int .u32 away, .slice none 0 0, .slice none 0 0, .int .u64 0] 75) = w2 := by rw [hw2, hr0]; rfl
  rw [e2]
  have x2 : Ext [] w1 w2 := by rw [hw2]; exact (Ext.refl _ _).alloc
  have s2 : w2.heap.size = w1.heap.size + 1 := by rw [hw2]; simp
  have h2 : hp w2 w1.heap.size = some (.cells r.cells 75 (0, 0)) := by rw [hw2]; simp
  have rb : r.blk = w1.heap.size := by rw [hr0]
  have rs : r.sess = [] := by rw [hr0]
  have rc : r.conns = [] := by rw [hr0]
  have ra : r.abs = ⟨caps, size, away, 0, [], []⟩ := by rw [hr0]; rfl
  have ro : ∀ b, r.own b = if b = w1.heap.size then .hub 0 else .none := by rw [hr0]; intro b; rfl
  have rr : RRep w2 r := by
    refine ⟨by rw [rb]; exact h2, ?_, ?_, by simp [rs], by rw [rb, ro]; simp, ?_, ?_, ?_, ?_, ?_, ?_, by simp [rs]⟩
    · rw [hr0]; exact Vec.nil _ _ _ _
    · rw [hr0]; exact Vec.nil _ _ _ _
    · rw [hr0]; simp [ob]
    · rw [hr0]; simp [ob]
    · intro b hb
      rw [ro] at hb
      by_cases e : b = w1.heap.size
      · omega
      · rw [if_neg e] at hb; exact absurd rfl hb
    · rw [hr0]; exact hc
    · rw [hr0]; exact ha
    · rw [hr0]; simp
  clear hw2
  have hr2 := hr.ext x2 (by simp)
  have hgb : g.blk < w1.heap.size := lt_of_hp hr.at_
  obtain ⟨w3, hw3⟩ : ∃ w3, w3 = w2.alloc (.cells #[pt g.blk 0, pt w1.heap.size 0, .int .u32 0, .slice none 0 0] 72) := ⟨_, rfl⟩
  rw [← hw3]
  have x3 : Ext [] w2 w3 := by rw [hw3]; exact (Ext.refl _ _).alloc
  have h3 : hp w3 w2.heap.size = some (.cells #[pt g.blk 0, pt w1.heap.size 0, .int .u32 0, .slice none 0 0] 72 (0, 0)) := by rw [hw3]; simp
  clear hw3
  have gfresh : ∀ b, w1.heap.size ≤ b → g.own b = .none := fun b hb => hr.fresh hb
  have hsim : r.abs = g.abs := by rw [ra, hg]
  have bi : BI w3 ⟨g, r, w2.heap.size, 0, .slice none 0 0, 0, []⟩ 0 := by
    refine ⟨⟨hr2.ext x3 (by simp), hw, rr.ext x3 (by simp), fun b hb => ?_, by rw [h3]; simp [rb], gfresh _ (by simp only; omega), ?_, Vec.nil _ _ _ _, by simp [ob]⟩, hsim, ?_, ?_, Nat.zero_le _, by simp⟩
    · simp only at hb ⊢
      rw [ro]
      by_cases e : b = w1.heap.size
      · exact absurd (gfresh b (by omega)) hb
      · rw [if_neg e]
    · simp only
      rw [ro, if_neg (by omega)]
    · intro s hs; rw [rs] at hs; cases hs
    · simp only
      rw [hg]
      exact ⟨Nat.le_refl _, by simp, by simp⟩
  rw [← s2]
  refine h w3 _ bi ((x1.trans x2 (by simp)).trans x3 (by simp)) fun b hb => ⟨ho b hb, ?_, ?_, by simp [ob]⟩
  · have := x1.size
    simp only
    rw [ro, if_neg (by omega)]
  · have := x1.size
    simp only
    omega

/-- The law's state: both hubs, and what was there before them. -/
structure Law (W w : World) (x : Bo) (k : Nat) : Prop where
  bi : BI w x k
  ext : Ext [] W w
  free : ∀ b, b < W.heap.size → x.free b
theorem Law.step {W w w' : World} {x x' : Bo} {k l : Nat} (h : Law W w x k) (hi : BI w' x' l) (st : BStep w x w' x') : Law W w' x' l := by
  have hsz := h.ext.size
  refine ⟨hi, ⟨st.os.trans h.ext.os, st.tape.trans h.ext.tape, st.output.trans h.ext.output, Nat.le_trans hsz st.size, fun b hb _ => ?_⟩, fun b hb => st.keep b (by omega) (h.free b hb)⟩
  rw [st.same b (by omega) (h.free b hb), h.ext.same b hb (by simp)]

/-- One op of a law: is it great; if not, it is done. -/
theorem great_op {W w : World} {x : Bo} {k i : Nat} {v : Value} {n : Nat} {c : Nat} {b o : Nat} {Q : Cont} (hrd : ∀ w', Ext [] W w' → Rd w' 62 [v]) (hv : v = .slice (some ⟨b, o, none⟩) n c) (hi : i < n) (hL : Law W w x k)
    (h : ∀ e p m w', OpAt w' b (o + i * 32) p m → Law W w' x k → Q (.bool e) w') : ∃ p m, OpAt w b (o + i * 32) p m ∧ Ret pg n_lodestarref06_Great #[.agg m] Q w := by
  have at_ : ∀ w', Ext [] W w' → ∃ p m, OpAt w' b (o + i * 32) p m := by
    intro w' hx
    obtain ⟨ad, n', c', h1, _, h3⟩ := ops_of (hrd w' hx)
    rw [hv] at h1
    injection h1 with h1 h1n _
    subst h1n
    obtain ⟨b', o', h4, h5⟩ := h3 (by omega)
    rw [← h1] at h4
    injection h4 with h4
    injection h4 with h4 h4'
    subst h4 h4'
    exact h5 i hi
  obtain ⟨p, m, hO⟩ := at_ w hL.ext
  refine ⟨p, m, hO, Great_spec hO.sz (fun w' hx => ?_) fun e w' hx => ?_⟩
  · have hb : b < w.heap.size := by
      have := hO.row
      cases hh : hp w b with
      | none => rw [hh] at this; simp [rowOf] at this
      | some ob => exact lt_of_hp hh
    obtain ⟨p', m', hO'⟩ := at_ w' (hL.ext.trans hx (by simp))
    have e1 := hO'.msg
    rw [hx.same b hb (by simp), hO.msg] at e1
    injection e1 with e1
    injection e1 with e1
    rw [e1]
    exact hO'.rd
  · obtain ⟨p', m', hO'⟩ := at_ w' (hL.ext.trans hx (by simp))
    exact h e p' m' w' hO' ⟨hL.bi.ext hx (by simp), hL.ext.trans hx (by simp), hL.free⟩
end Go.Proofs.Ytpdcllhmbjnooaa
