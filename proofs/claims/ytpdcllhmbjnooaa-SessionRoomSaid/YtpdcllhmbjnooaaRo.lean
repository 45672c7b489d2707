/- An op on both hubs: which message, and all of it. -/
import Derived.Test.YtpdcllhmbjnooaaRn
namespace Go.Proofs.Ytpdcllhmbjnooaa
open Go.Dc
set_option maxRecDepth 10000

theorem u32_nat (n : Int) : ∃ r : Nat, r < 4294967296 ∧ IntKind.wrap .u32 n = (r : Int) := by
  have h : IntKind.wrap .u32 n = n % 4294967296 := by simp [IntKind.wrap, IntKind.bits, IntKind.signed]
  refine ⟨(n % 4294967296).toNat, by omega, ?_⟩
  rw [h]; omega

theorem set_msgok {m : Msg} (h : MsgOk m) (i : Nat) (u : Value) (hu : u.oneCell' = true) : MsgOk (m.setIfInBounds i u) := by
  refine ⟨by simp [h.size], fun v hv => ?_⟩
  rcases Array.mem_or_eq_of_mem_setIfInBounds hv with hv | hv
  · exact h.one v hv
  · rw [hv]; exact hu
theorem set_mf1 {m : Msg} {f : MF} (h : MsgF m f) (r : Nat) (hr : r < 4294967296) : MsgF (m.setIfInBounds 1 (.int .u32 r)) { f with req := r } :=
  ⟨set_msgok h.ok _ _ rfl, by simp [h.k0], by simp [h.ok.size], by simp [h.k2], by simp [h.k3], by simp [h.k5], h.b0, hr, h.b2, h.b3, h.b5⟩
theorem set_mf5 {m : Msg} {f : MF} (h : MsgF m f) (r : Nat) (hr : r < 4294967296) : MsgF (m.setIfInBounds 5 (.int .u32 r)) { f with n := r } :=
  ⟨set_msgok h.ok _ _ rfl, by simp [h.k0], by simp [h.k1], by simp [h.k2], by simp [h.k3], by simp [h.ok.size], h.b0, h.b1, h.b2, h.b3, hr⟩

/-- The message's variable was written. -/
theorem XV.up {w0 w w1 : World} {x : Bo} {xb k : Nat} {m m' : Msg} (hi : BI w x k) (s0 : BStep w0 x w x) (hb : w0.heap.size ≤ xb) (hx : XV w x xb m) (hw : w1 = put w xb (.cells m' 37 (0, 0))) : BI w1 x k ∧ BStep w0 x w1 x ∧ XV w1 x xb m' := by
  have e : Ext [xb] w w1 := by rw [hw]; exact Ext.put (Ext.refl _ _) (.inl (by simp))
  exact ⟨hi.ext e (by simp [hx.fr]), s0.fresh e (by simp [hb]), ⟨by rw [hw]; simp [lt_of_hp hx.at_], hx.fr⟩⟩

/-- The message's variable gets another field. -/
theorem XV.st {w0 w : World} {x : Bo} {xb k j r : Nat} {m : Msg} {Q : World → Prop} (hi : BI w x k) (s0 : BStep w0 x w x) (hb : w0.heap.size ≤ xb) (hx : XV w x xb m) (hm : MsgOk m) (hj : j < 28)
    (h : ∀ w', BI w' x k → BStep w0 x w' x → XV w' x xb (m.setIfInBounds j (.int .u32 r)) → Q w') : st 22 (pt xb j) (.int .u32 r) (fun _ => Q) (drw w) := by
  have xd : Ext [] w (drw w) := (Ext.refl _ _).drw
  have s1 := s0.trans (BStep.idle x xd)
  have hx1 := hx.step (BStep.idle x xd)
  obtain ⟨w1, hw1⟩ : ∃ w1, w1 = put (drw w) xb (.cells (m.setIfInBounds j (.int .u32 r)) 37 (0, 0)) := ⟨_, rfl⟩
  refine st_at (w' := w1) (by kernel_rfl) rfl hx1.at_ (by rw [hm.size]; exact hj) hw1 ?_
  obtain ⟨i1, i2, i3⟩ := XV.up (hi.ext xd (by simp)) s1 hb hx1 hw1
  exact h w1 i1 i2 i3

theorem Do_j5_spec {w0 w : World} {x : Bo} {b xb k kind num ahead : Nat} {conn : Int} {m0 m : Msg} {f0 f : MF} {tell : Bool} {o : Array Value} {Q : Cont} (hi : BI w x k) (s0 : BStep w0 x w x) (hb : w0.heap.size ≤ xb) (hk : k ≤ 1000) (ho : OpF o kind conn m0 f0 num ahead tell) (hv : OV w0 x b o) (hx : XV w x xb m) (hm : MsgF m f) (c21 : m[21]? = some (.int .u32 num)) (hn : num < 4294967296)
    (h : ∀ w' x', BI w' x' (k + 2) → BStep w0 x w' x' → Q (.bool true) w') : lodestarlaw18_Both_Do_j5 Q (pt x.blk 0) (pt b 0) (pt xb 0) (I (idx (fun s => s.has && decide (s.conn = conn)) x.gr.sess)) w := by
  have go : lodestarlaw18_Both_Do_j6 Q (pt x.blk 0) (pt b 0) (pt xb 0) w :=
    Do_j6_spec hi hk ho (hv.step s0) hx hm c21 hn fun w' x' k1 k2 => h w' x' k1 (s0.trans k2)
  have hxa := hx.at_
  unfold lodestarlaw18_Both_Do_j5
  simp [hxa, hm.k0]
  by_cases h10 : f.kind = 10
  · rw [ifB_pos (by simp [h10])]
    simp only [bo_geq]
    unfold lodestarlaw18_Both_Do_j13
    rcases idx_cases (fun s => s.has && decide (s.conn = conn)) x.gr.sess with ⟨i, s, hk', hpp, hidx, hkl⟩ | ⟨hidx, hnone⟩
    · rw [hidx]
      simp
      obtain ⟨L, cap, hL⟩ := hi.bp.rr.lat (by intro e; rw [e] at hk'; simp at hk')
      have hat := hi.bp.at_
      have hgt := hi.bp.rr.at_
      unfold Rh.cells at hgt
      have hvl := hL.vl
      have hva := (hi.bp.rr.sess s (List.mem_of_getElem? hk')).va
      have hc2 := hL.cell i s hk' 2 s.va rfl
      simp [hat, hgt, hvl, hkl, hc2, Vec.len42q hva, hxa, hm.k5, -st_uint32]
      obtain ⟨r, hr, he⟩ := u32_nat (IntKind.wrap .u32 (s.ans.length : Int) - (f.n : Int))
      rw [he]
      refine XV.st hi s0 hb hx hm.ok (by decide) fun w1 i1 s1 x1 => ?_
      exact Do_j6_spec i1 hk ho (hv.step s1) x1 (set_mf5 hm r hr) (by simp [c21]) hn fun w' x' k1 k2 => h w' x' k1 (s1.trans k2)
    · rw [hidx]
      simp
      exact go
  · rw [ifB_neg (by simp; omega)]
    unfold lodestarlaw18_Both_Do_j13
    simp
    exact go

theorem Do_j4_spec {w0 w : World} {x : Bo} {b xb k kind num ahead : Nat} {conn : Int} {m0 m : Msg} {f0 f : MF} {tell : Bool} {o : Array Value} {Q : Cont} (hi : BI w x k) (s0 : BStep w0 x w x) (hb : w0.heap.size ≤ xb) (hk : k ≤ 1000) (ho : OpF o kind conn m0 f0 num ahead tell) (hv : OV w0 x b o) (hx : XV w x xb m) (hm : MsgF m f) (c21 : m[21]? = some (.int .u32 num)) (hn : num < 4294967296)
    (h : ∀ w' x', BI w' x' (k + 2) → BStep w0 x w' x' → Q (.bool true) w') : lodestarlaw18_Both_Do_j4 Q (pt x.blk 0) (pt b 0) (pt xb 0) (I (idx (fun s => s.has && decide (s.conn = conn)) x.gr.sess)) w := by
  have go : lodestarlaw18_Both_Do_j5 Q (pt x.blk 0) (pt b 0) (pt xb 0) (I (idx (fun s => s.has && decide (s.conn = conn)) x.gr.sess)) w :=
    Do_j5_spec hi s0 hb hk ho hv hx hm c21 hn h
  have hxa := hx.at_
  unfold lodestarlaw18_Both_Do_j4
  simp [hxa, hm.k0]
  have no : lodestarlaw18_Both_Do_j14 Q (pt x.blk 0) (pt b 0) (pt xb 0) (I (idx (fun s => s.has && decide (s.conn = conn)) x.gr.sess)) (.bool false) w := by
    unfold lodestarlaw18_Both_Do_j14
    rw [iteW_bool, ifB_neg (by simp)]
    exact go
  by_cases h10 : 11 ≤ f.kind
  · rw [ifB_pos (by simp; omega)]
    simp [hxa, hm.k0]
    by_cases h23 : f.kind ≤ 23
    · rw [ifB_pos (by simp; omega)]
      simp only [bo_geq]
      unfold lodestarlaw18_Both_Do_j14
      rcases idx_cases (fun s => s.has && decide (s.conn = conn)) x.gr.sess with ⟨i, s, hk', hpp, hidx, hkl⟩ | ⟨hidx, hnone⟩
      · rw [hidx]
        simp
        obtain ⟨L, cap, hL⟩ := hi.bp.rr.lat (by intro e; rw [e] at hk'; simp at hk')
        have hat := hi.bp.at_
        have hgt := hi.bp.rr.at_
        unfold Rh.cells at hgt
        have hvl := hL.vl
        have hva := (hi.bp.rr.sess s (List.mem_of_getElem? hk')).va
        have hc2 := hL.cell i s hk' 2 s.va rfl
        simp [hat, hgt, hvl, hkl, hc2, Vec.len42q hva, hxa, hm.k1, -st_uint32]
        obtain ⟨r, hr, he⟩ := u32_nat (IntKind.wrap .u32 (IntKind.wrap .u32 (s.ans.length : Int) + 1) + (f.req : Int))
        rw [he]
        refine XV.st hi s0 hb hx hm.ok (by decide) fun w1 i1 s1 x1 => ?_
        have := Do_j5_spec i1 s1 hb hk ho hv x1 (set_mf1 hm r hr) (by simp [c21]) hn h
        rw [hidx] at this
        exact this
      · rw [hidx] at go ⊢
        simp
        exact go
    · rw [ifB_neg (by simp; omega)]
      exact no
  · rw [ifB_neg (by simp; omega)]
    exact no

theorem Do_j2_spec {w : World} {x : Bo} {b k kind num ahead : Nat} {conn : Int} {m : Msg} {f : MF} {tell : Bool} {o : Array Value} {Q : Cont} (hi : BI w x k) (hk : k ≤ 1000) (ho : OpF o kind conn m f num ahead tell) (hn : num < 4294967296) (hv : OV w x b o)
    (h : ∀ w' x', BI w' x' (k + 2) → BStep w x w' x' → Q (.bool true) w') : lodestarlaw18_Both_Do_j2 Q (pt x.blk 0) (pt b 0) w := by
  have hra : rowOf (hp w b) 2 28 = some (.agg m) := by rw [hv.at_]; exact ho.row 66 (0, 0)
  unfold lodestarlaw18_Both_Do_j2
  simp [hra, -st_api_Message]
  obtain ⟨w1, hw1⟩ : ∃ w1, w1 = put (w.alloc (.cells zMsg 37)) w.heap.size (.cells m 37 (0, 0)) := ⟨_, rfl⟩
  refine st_msgw (w' := w1) (c := zMsg) (T := 37) ho.mf.ok (by simp; rfl) rfl hw1 ?_
  have x1 : Ext [] w w1 := by rw [hw1]; exact ((Ext.refl _ _).alloc).put (.inr (Nat.le_refl _))
  have ha1 : hp w1 w.heap.size = some (.cells m 37 (0, 0)) := by rw [hw1]; simp
  clear hw1
  have hi1 := hi.ext x1 (by simp)
  have s1 := BStep.idle x x1
  have hx1 : XV w1 x w.heap.size m := ⟨ha1, hi.bp.lt (Nat.le_refl _)⟩
  have hv1 := (hv.step s1).at_
  have hat := hi1.bp.at_
  unfold lodestarlaw18_Both_Do_j3
  simp [hat, hv1, ho.c1]
  have xd : Ext [] w1 (drw w1) := (Ext.refl _ _).drw
  have hi2 := hi1.ext xd (by simp)
  refine Of_spec hi2.bp.rr hi2.r8 ?_
  exact Do_j4_spec hi2 (s1.trans (BStep.idle x xd)) (Nat.le_refl _) hk ho hv (hx1.step (BStep.idle x xd)) ho.mf ho.c21 hn h

/-- The clock. -/
def Bo.at (x : Bo) (n : Nat) : Bo := { x with now := n }
theorem BI.clock {w w1 : World} {x : Bo} {k n : Nat} (h : BI w x k) (hn : n < 4294967296) (hw : w1 = put w x.blk (.cells #[pt x.gh.blk 0, pt x.gr.blk 0, .int .u32 n, x.vd] 72 (0, 0))) : BI w1 (x.at n) k ∧ BStep w x w1 (x.at n) := by
  have hlt := lt_of_hp h.bp.at_
  have e : Ext [x.blk] w w1 := by rw [hw]; exact Ext.put (Ext.refl _ _) (.inl (by simp))
  refine ⟨⟨⟨h.bp.hub.ext e (by simp [h.bp.bh]), h.bp.wf, h.bp.rr.ext e (by simp [h.bp.br]), h.bp.sep, by rw [hw]; simp [Bo.at, hlt], h.bp.bh, h.bp.br, h.bp.vd.ext e fun b hb hs => by simp at hs; exact (h.bp.fr b hb).2.2 hs, h.bp.fr⟩, h.sim, h.z, h.lim, h.dn, hn⟩,
    ⟨e.os, e.tape, e.output, e.size, fun b hb hf => e.same b hb (by simp; exact hf.2.2.1), fun b hb hf => hf, rfl⟩⟩

/-- An op on both hubs. -/
theorem Do_spec {w : World} {x : Bo} {k kind num ahead : Nat} {conn : Int} {m : Msg} {f : MF} {tell : Bool} {o : Array Value} {Q : Cont} (hi : BI w x k) (hk : k ≤ 1000) (ho : OpF o kind conn m f num ahead tell) (hn : num < 4294967296)
    (h : ∀ w' x', BI w' x' (k + 2) → BStep w x w' x' → Q (.bool true) w') : Ret pg n_lodestarlaw18_Both_Do #[pt x.blk 0, .agg o] Q w := by
  apply lodestarlaw18_Both_Do_ok
  unfold lodestarlaw18_Both_Do
  simp
  have x1 : Ext [] w (w.alloc (.cells o 66)) := (Ext.refl _ _).alloc
  have hv1 : OV (w.alloc (.cells o 66)) x w.heap.size o := ⟨by simp, hi.bp.lt (Nat.le_refl _)⟩
  have hi1 := hi.ext x1 (by simp)
  have s1 := BStep.idle x x1
  generalize w.alloc (.cells o 66) = w1 at *
  have xd : Ext [] w1 (drw w1) := (Ext.refl _ _).drw
  have hi2 := hi1.ext xd (by simp)
  have s2 := s1.trans (BStep.idle x xd)
  have hv2 := hv1.step (BStep.idle x xd)
  have hat := hi1.bp.at_
  have hov := hv1.at_
  unfold lodestarlaw18_Both_Do_j0
  simp [hat, hov, ho.c30, -st_uint32]
  obtain ⟨r, hr, he⟩ := u32_nat ((x.now : Int) + (ahead : Int))
  rw [he]
  obtain ⟨w3, hw3⟩ : ∃ w3, w3 = put (drw w1) x.blk (.cells #[pt x.gh.blk 0, pt x.gr.blk 0, .int .u32 r, x.vd] 72 (0, 0)) := ⟨_, rfl⟩
  refine st_at (w' := w3) (by kernel_rfl) rfl hi2.bp.at_ (by simp) hw3 ?_
  obtain ⟨hi3, s3⟩ := hi2.clock hr hw3
  have s13 := s2.trans s3
  have hv3 := hv2.step s3
  exact Do_j15_spec (x := x.at r) hi3 hk ho hv3 (fun w' i1 i2 i3 => Do_j2_spec i1 hk ho hn i3 fun w' x' k1 k2 => h w' x' k1 (s13.trans (i2.trans k2))) fun w' x' k1 k2 => h w' x' k1 (s13.trans k2)
end Go.Proofs.Ytpdcllhmbjnooaa
