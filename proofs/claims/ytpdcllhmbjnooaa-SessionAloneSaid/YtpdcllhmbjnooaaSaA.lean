/- SessionAlone: the walk, once Great is known to answer. -/
import Derived.Test.YtpdcllhmbjnooaaSeL
import Derived.Test.YtpdcllhmbjnooaaLm
namespace Go.Proofs.Ytpdcllhmbjnooaa
open Go.Dc
set_option maxRecDepth 10000

theorem and_three (n : Nat) : 3 &&& n = n % 4 := by
  rw [Nat.and_comm]
  exact Nat.and_two_pow_sub_one_eq_mod n 2

def mc (n : Int) : MH := ⟨3, 4, 9, 0, [n], []⟩

theorem alone0 (n : Int) (now : Nat) (f : MF) : (m0.in_ n now f) = (m0, MT.none, 2) := by
  unfold MH.in_ m0
  rw [if_pos (by simp)]
theorem alone1 (n : Int) : m0.open_ n = mc n := by
  unfold MH.open_ MH.openE m0 mc
  simp
theorem close1 (n : Int) (now : Nat) : (mc n).close n now = m0 := by
  unfold MH.close mc m0
  simp

theorem alone2 (n : Int) (now : Nat) (f : MF) (hh : ¬ (f.kind = 1 ∧ f.caps % 4 ≠ 0)) : ∃ t : MT, (mc n).in_ n now f = (m0, t, 0) ∧ t.do_ = false ∧ t.shut = [n] ∧
    (f.kind = 6 → t.out = []) ∧ (f.kind = 1 ∨ f.kind = 3 → ∃ c, t.out = [mKC 5 c]) ∧ (f.kind ≠ 6 → f.kind ≠ 1 → f.kind ≠ 3 → t.out = [mKC 6 180]) := by
  have hon : (mc n).on n = none := rfl
  unfold MH.in_
  rw [if_neg (show ¬ n ∉ (mc n).conns from by unfold mc; simp)]
  by_cases h6 : f.kind = 6
  · rw [if_pos h6, close1]
    exact ⟨_, rfl, rfl, rfl, fun _ => rfl, fun k => by omega, fun k => absurd h6 k⟩
  rw [if_neg h6, hon]
  dsimp only
  by_cases h1 : f.kind = 1
  · rw [if_pos h1]
    have hz : (mc n).caps &&& f.caps = 0 := by
      show 3 &&& f.caps = 0
      rw [and_three]
      omega
    have : (mc n).hello n now f = (m0, shutT n 5 181) := by
      unfold MH.hello
      rw [if_pos hz, close1]
    rw [this]
    exact ⟨_, rfl, rfl, rfl, fun k => absurd k h6, fun _ => ⟨181, rfl⟩, fun _ k => absurd h1 k⟩
  rw [if_neg h1]
  by_cases h3 : f.kind = 3
  · rw [if_pos h3]
    have : (mc n).resume n now f = (m0, shutT n 5 182) := by
      unfold MH.resume
      rw [show (mc n).find f.tok = none from rfl]
      dsimp only
      rw [close1]
    rw [this]
    exact ⟨_, rfl, rfl, rfl, fun k => absurd k h6, fun _ => ⟨182, rfl⟩, fun _ _ k => absurd h3 k⟩
  rw [if_neg h3, close1]
  exact ⟨_, rfl, rfl, rfl, fun k => absurd k h6, fun k => by omega, fun _ _ _ => rfl⟩

theorem alone3 (n : Int) (now : Nat) (f : MF) (h1 : f.kind = 1) (h2 : f.caps % 4 ≠ 0) : ∃ m' t, (mc n).in_ n now f = (m', t, 0) ∧ t = ⟨[mWel (f.caps % 4 : Nat) 1 4], [], false, 0⟩ ∧ m'.conns = [n] ∧ m'.conn 1 = (n, true) := by
  have hon : (mc n).on n = none := rfl
  unfold MH.in_
  rw [if_neg (show ¬ n ∉ (mc n).conns from by unfold mc; simp), if_neg (by omega), hon]
  dsimp only
  rw [if_pos h1]
  have hz : (mc n).caps &&& f.caps = f.caps % 4 := and_three _
  have : (mc n).hello n now f = ({ mc n with last := 1, sess := [(mc n).newS n f] }, ⟨[mWel (f.caps % 4 : Nat) 1 4], [], false, 0⟩) := by
    unfold MH.hello
    rw [hz, if_neg h2, if_neg (by unfold mc; simp)]
    rfl
  rw [this]
  exact ⟨_, _, rfl, rfl, rfl, rfl⟩

theorem SessionAlone_spec {n : Int} {now : Nat} {m : Msg} {f : MF} {w : World} {Q : Cont} (hm : MsgF m f) (hn : now < 4294967296)
    (hg : ∀ w1, Ext [] w w1 → ∀ K : Cont, (∀ b w', Ext [] w1 w' → K (.bool b) w') → Ret pg n_lodestarref06_Great #[.agg m] K w1)
    (h : ∀ w', Ext [] w w' → Q (.bool true) w') : Ret pg n_lodestarlaw18_SessionAlone #[.int .i64 n, .agg m, .int .u32 now] Q w := by
  apply lodestarlaw18_SessionAlone_ok
  unfold lodestarlaw18_SessionAlone
  simp
  unfold lodestarlaw18_SessionAlone_j0
  refine alive_spec fun w1 x1 => ?_
  have x1' := ((Ext.refl [] w).alloc (o := .cells m 37)).trans x1 (by simp)
  have hx1 : hp w1 w.heap.size = some (.cells m 37 (0, 0)) := x1.at (by simp) (by simp)
  simp
  unfold lodestarlaw18_SessionAlone_j1
  rw [ld_msg _ _ _ hx1 hm.ok.size]
  refine hg w1 x1' _ fun b w2 x2 => ?_
  have hx2 := x2.at hx1 (by simp)
  have x2' := x1'.trans x2 (by simp)
  cases b with
  | true =>
    simp
    exact h w2 x2'
  | false =>
    simp
    unfold lodestarlaw18_SessionAlone_j2
    refine New_spec (caps := 3) (away := 9) (by decide) (by decide) fun w3 g3 x3 hr3 hw3 hf3 ha3 => ?_
    have hx3 := x3.at hx2 (by simp)
    have lx3 := lt_of_hp hx2
    have hxo : g3.own w.heap.size = .none := hf3 _ lx3
    rw [show (⟨3, 4, 9, 0, [], []⟩ : MH) = m0 from rfl] at ha3
    unfold lodestarlaw18_SessionAlone_j3
    rw [ld_msg _ _ _ hx3 hm.ok.size]
    have l3 : g3.last = 0 := last_of (n := 0) ha3 rfl
    refine In_spec (f := f) hr3 hw3 hn hm (by omega) fun w4 g4 v4 st4 ha4 hT4 => ?_
    rw [ha3, alone0] at ha4 hT4
    rw [ha3, alone0]
    simp [-st_api_Turn]
    refine TurnVar.new st4.rep st4.wf hT4 fun w5 st5 _ ta => ?_
    unfold lodestarlaw18_SessionAlone_j4
    obtain ⟨vo, vs, k1, k2, k3⟩ := ta.at_
    have y1 : MT.none.out.length = 0 := rfl
    have y2 : MT.none.shut.length = 0 := rfl
    have y3 : MT.none.do_ = false := rfl
    simp [k1, k2.len42, k3.len43, y1, y2, y3]
    unfold lodestarlaw18_SessionAlone_j18
    simp
    unfold lodestarlaw18_SessionAlone_j5
    rw [← st4.blk]
    refine Open_spec st5.rep st5.wf fun w6 g6 st6 ha6 => ?_
    rw [ha4, alone1] at ha6
    unfold lodestarlaw18_SessionAlone_j6
    have hx6 : hp w6 w.heap.size = some (.cells m 37 (0, 0)) := by
      rw [(st4.trans (st5.trans st6)).same _ (lt_of_hp hx3) hxo]; exact hx3
    rw [ld_msg _ _ _ hx6 hm.ok.size, ← st6.blk]
    have l6 : g6.last = 0 := last_of (n := 0) ha6 rfl
    refine In_spec (f := f) st6.rep st6.wf hn hm (by omega) fun w7 g7 v7 st7 ha7 hT7 => ?_
    rw [ha6] at ha7 hT7
    rw [ha6]
    simp [-st_api_Turn]
    refine TurnVar.new st7.rep st7.wf hT7 fun w8 st8 _ tb => ?_
    have st38 := st4.trans (st5.trans (st6.trans (st7.trans st8)))
    have hx8 : hp w8 w.heap.size = some (.cells m 37 (0, 0)) := by rw [st38.same _ (lt_of_hp hx3) hxo]; exact hx3
    have fin : ∀ w9, Ext [] w8 w9 → Q (.bool true) w9 := fun w9 x9 => h _ (((x2'.trans (Step.outside (fun b hb => hf3 b hb) x3 st38) (by simp)).trans x9 (by simp)))
    unfold lodestarlaw18_SessionAlone_j7
    by_cases hh : f.kind = 1 ∧ f.caps % 4 ≠ 0
    · obtain ⟨m', t, e1, e2, e3, e4⟩ := alone3 n now f hh.1 hh.2
      rw [e1] at ha7 hT7 tb
      rw [e1]
      subst e2
      obtain ⟨vo, vs, k1, k2, k3⟩ := tb.at_
      obtain ⟨ob, rfl, hob⟩ := k2.some (by simp)
      simp [k1]
      unfold lodestarlaw18_SessionAlone_j17
      simp
      unfold lodestarlaw18_SessionAlone_j8
      simp [hx8, hm.k0, hm.k2]
      have c1 : (f.kind : Int) = 1 := by omega
      have c2 : ((f.caps : Int).tmod 4) = ((f.caps % 4 : Nat) : Int) := by
        rw [Int.tmod_eq_emod_of_nonneg (by omega)]
        omega
      rw [ifB_pos (by simp [c1])]
      simp [hx8, hm.k2]
      rw [c2]
      unfold lodestarlaw18_SessionAlone_j16
      rw [show (!decide (((f.caps % 4 : Nat) : Int) = 0)) = true from by simp; omega]
      simp
      rw [← st7.blk]
      have hr8 := st8.rep
      refine Conn_spec (tok := 1) hr8 st8.wf ?_
      have ha7' : g7.abs = m' := ha7
      rw [ha7', e4]
      have z1 : (flat [mWel (f.caps % 4 : Nat) 1 4])[0]? = some (.int .u8 2) := rfl
      have z2 : (flat [mWel (f.caps % 4 : Nat) 1 4])[2]? = some (.int .u32 (f.caps % 4 : Nat)) := rfl
      simp only [Int.natCast_emod, Int.cast_ofNat_Int] at z1 z2 hob c2
      simp [k1, k3.len43q, hob, z1, z2, hx8, hm.k2, c2]
      refine Conns_spec hr8.drw ?_
      rw [ha7', e3]
      simp
      exact fin _ ((Ext.refl _ _).drw)
    · obtain ⟨t, e1, e2, e3, e4, e5, e6⟩ := alone2 n now f hh
      rw [e1] at ha7 hT7 tb
      rw [e1]
      obtain ⟨vo, vs, k1, k2, k3⟩ := tb.at_
      simp [k1, e2]
      unfold lodestarlaw18_SessionAlone_j17
      simp
      unfold lodestarlaw18_SessionAlone_j8
      have key : lodestarlaw18_SessionAlone_j16 Q (.int .i64 n) (pt w.heap.size 0) (pt g6.blk 0) (pt w7.heap.size 0) (.bool false) w8 := by
        unfold lodestarlaw18_SessionAlone_j16
        simp
        unfold lodestarlaw18_SessionAlone_j9
        rw [← st7.blk]
        have ha7' : g7.abs = m0 := ha7
        have hr8 := st8.rep
        have y4 : t.shut.length = 1 := by rw [e3]; rfl
        obtain ⟨sb, rfl, hsb⟩ := k3.some (show 0 < t.shut.length by omega)
        rw [e3] at hsb
        have hsb' : hp w8 sb = some (.cells #[.int .i64 n] 3 (0, 0)) := hsb
        simp [k1, y4, hsb']
        refine Conns_spec hr8 ?_
        rw [ha7', show m0.conns.length = 0 from rfl]
        simp
        refine Sessions_spec hr8 ?_
        rw [ha7', show m0.sess.length = 0 from rfl]
        simp
        unfold lodestarlaw18_SessionAlone_j15
        simp
        unfold lodestarlaw18_SessionAlone_j10
        simp [hx8, hm.k0]
        unfold lodestarlaw18_SessionAlone_j12
        simp
        unfold lodestarlaw18_SessionAlone_j13
        simp
        by_cases h6 : f.kind = 6
        · rw [ifB_pos (by simp [h6])]
          simp [k1, k2.len42, e4 h6]
          exact fin _ (Ext.refl _ _)
        rw [ifB_neg (by simp; omega)]
        unfold lodestarlaw18_SessionAlone_c0
        simp
        have g13 : f.kind = 1 ∨ f.kind = 3 → lodestarlaw18_SessionAlone_j14 Q (pt w7.heap.size 0) (.bool true) w8 := by
          intro hk
          unfold lodestarlaw18_SessionAlone_j14
          obtain ⟨cd, e7⟩ := e5 hk
          rw [e7] at k2
          obtain ⟨ob, rfl, hob⟩ := k2.some (by simp)
          have z1 : (flat [mKC 5 cd])[0]? = some (.int .u8 5) := rfl
          simp [k1, hob, z1]
          exact fin _ (Ext.refl _ _)
        by_cases h1 : f.kind = 1
        · rw [ifB_pos (by simp [h1]), show decide ((f.kind : Int) = 1) = true from by simp [h1]]
          exact g13 (.inl h1)
        rw [ifB_neg (by simp; omega)]
        simp
        by_cases h3 : f.kind = 3
        · rw [show decide ((f.kind : Int) = 3) = true from by simp [h3]]
          exact g13 (.inr h3)
        rw [show decide ((f.kind : Int) = 3) = false from by simp; omega]
        unfold lodestarlaw18_SessionAlone_j14
        simp
        unfold lodestarlaw18_SessionAlone_j11
        have e7 := e6 h6 h1 h3
        rw [e7] at k2
        obtain ⟨ob, rfl, hob⟩ := k2.some (by simp)
        have z1 : (flat [mKC 6 180])[0]? = some (.int .u8 6) := rfl
        have z2 : (flat [mKC 6 180])[4]? = some (.int .u8 180) := rfl
        simp [k1, hob, z1, z2]
        exact fin _ (Ext.refl _ _)
      simp [hx8, hm.k0, hm.k2]
      by_cases c1 : f.kind = 1
      · rw [ifB_pos (by simp [c1])]
        simp [hx8, hm.k2]
        have c2 : ((f.caps : Int).tmod 4) = 0 := by
          rw [Int.tmod_eq_emod_of_nonneg (by omega)]
          omega
        rw [c2]
        exact key
      · rw [ifB_neg (by simp; omega)]
        exact key
end Go.Proofs.Ytpdcllhmbjnooaa
