/- SessionAway: the walk. -/
import Derived.Test.YtpdcllhmbjnooaaSeL
import Derived.Test.YtpdcllhmbjnooaaSeT
namespace Go.Proofs.Ytpdcllhmbjnooaa
open Go.Dc
set_option maxRecDepth 10000

def sK (msgs : List Msg) (conn : Option Int) : MS := ⟨1, 3, msgs, 0, 8, 8, conn, 0⟩
def mK (away : Nat) (conns : List Int) (ss : List MS) : MH := ⟨3, 8, away, 1, conns, ss⟩

theorem away1 (away : Nat) : (⟨3, 8, away, 0, [], []⟩ : MH).open_ 1 = ⟨3, 8, away, 0, [1], []⟩ := rfl
theorem away2 (away : Nat) : ((⟨3, 8, away, 0, [1], []⟩ : MH).in_ 1 0 ⟨1, 0, 3, 0, 0⟩).1 = mK away [1] [sK [] (some 1)] := by kernel_rfl
theorem away3 (away : Nat) (msgs : List Msg) (h : msgs.length ≤ 6) : (mK away [1] [sK msgs (some 1)]).in_ 1 0 ⟨13, msgs.length + 1, 0, 0, 0⟩ = (mK away [1] [sK msgs (some 1)], ⟨[], [], true, 1⟩, 0) := by
  have hon : (mK away [1] [sK msgs (some 1)]).on 1 = some (sK msgs (some 1)) := rfl
  unfold MH.in_
  rw [hon]
  simp only [mK, List.mem_singleton, not_true_eq_false, if_false]
  have hd : (sK msgs (some 1)).done = msgs.length := by simp [MS.done, sK]
  have ha : (sK msgs (some 1)).ask (msgs.length + 1) = (zMsg, 1) := by
    unfold MS.ask Tb.ask MS.tb
    simp [sK, Tb.done]
  have hl : (sK msgs (some 1)).lacks 13 = false := rfl
  have hq : MH.request (⟨3, 8, away, 1, [1], [sK msgs (some 1)]⟩) 1 0 ⟨13, msgs.length + 1, 0, 0, 0⟩ (sK msgs (some 1)) = (⟨3, 8, away, 1, [1], [sK msgs (some 1)]⟩, ⟨[], [], true, 1⟩) := by
    unfold MH.request
    simp only [ha, hl]
    rw [if_neg (by simp [sK]; omega)]
    simp [sK]
  rw [hq]
  simp
theorem away4 (away : Nat) (msgs : List Msg) (x : Msg) (h : msgs.length ≤ 6) : (mK away [1] [sK msgs (some 1)]).told 1 (msgs.length + 1) x = (mK away [1] [sK (msgs ++ [x]) (some 1)], 0) := by
  have hf : (mK away [1] [sK msgs (some 1)]).find 1 = some (sK msgs (some 1)) := rfl
  unfold MH.told
  rw [hf]
  have he : (sK msgs (some 1)).tb.keepE (msgs.length + 1) = 0 := by
    have hd : (sK msgs (some 1)).tb.done = msgs.length := by simp [Tb.done, MS.tb, sK]
    have hm : (sK msgs (some 1)).tb.msgs = msgs := rfl
    unfold Tb.keepE
    rw [hd, hm, if_neg (by omega), if_neg (by omega), if_neg (by omega)]
  have hk : (sK msgs (some 1)).keep (msgs.length + 1) x = sK (msgs ++ [x]) (some 1) := by
    unfold MS.keep Tb.keep
    rw [he, if_pos rfl]
    rfl
  simp only [he, hk]
  rfl
theorem away5 (away : Nat) (msgs : List Msg) (now : Nat) : (mK away [1] [sK msgs (some 1)]).tick now = mK away [1] [sK msgs (some 1)] ∧ (mK away [1] [sK msgs (some 1)]).tickT now = [] := ⟨rfl, rfl⟩
theorem away6 (away : Nat) (msgs : List Msg) : (mK away [1] [sK msgs (some 1)]).close 1 0 = mK away [] [sK msgs none] := by
  unfold MH.close mK sK
  simp
theorem away7 (away : Nat) (msgs : List Msg) (now : Nat) (h : away < now) : (mK away [] [sK msgs none]).tick now = mK away [] [] ∧ (mK away [] [sK msgs none]).tickT now = [1] := by
  have : (sK msgs none).gone now away = true := by simp [MS.gone, sK, h]
  constructor
  · unfold MH.tick mK
    simp [this]
  · unfold MH.tickT mK
    simp only [List.filter_cons, this, if_true, List.filter_nil]
    rfl
theorem away8 (away : Nat) (msgs : List Msg) (now : Nat) (h : ¬ away < now) : (mK away [] [sK msgs none]).tick now = mK away [] [sK msgs none] ∧ (mK away [] [sK msgs none]).tickT now = [] := by
  have : (sK msgs none).gone now away = false := by simp [MS.gone, sK, h]
  constructor
  · unfold MH.tick mK
    simp [this]
  · unfold MH.tickT mK
    simp [this]
theorem away9 (away : Nat) (ss : List MS) : (mK away [] ss).open_ 2 = mK away [2] ss := rfl
theorem away10 (away now : Nat) : (mK away [2] []).in_ 2 now ⟨3, 0, 0, 1, 0⟩ = (mK away [] [], shutT 2 5 182, 0) := rfl
theorem away11 (away now : Nat) (msgs : List Msg) : (mK away [2] [sK msgs none]).in_ 2 now ⟨3, 0, 0, 1, 0⟩ = (mK away [2] [sK msgs (some 2)], ⟨[mKN 4 (0 + msgs.length : Nat), mKN 9 8], [], false, 0⟩, 0) := by
  kernel_rfl

def xL (i : Int) : Msg := (zMsg.setIfInBounds 0 (.int .u8 13)).setIfInBounds 1 (.int .u32 i)
def xA (i : Int) : Msg := (zMsg.setIfInBounds 0 (.int .u8 24)).setIfInBounds 1 (.int .u32 i)
theorem xL_ok {i : Nat} (h : i < 4294967296) : MsgF (xL i) ⟨13, i, 0, 0, 0⟩ := ⟨(zMsg_ok.set _ rfl).set _ rfl, rfl, rfl, rfl, rfl, rfl, by simp, h, by simp, by simp, by simp⟩
theorem xA_ok {i : Nat} (h : i < 4294967296) : MsgF (xA i) ⟨24, i, 0, 0, 0⟩ := ⟨(zMsg_ok.set _ rfl).set _ rfl, rfl, rfl, rfl, rfl, rfl, by simp, h, by simp, by simp, by simp⟩

theorem flat_get {m : Msg} (h : MsgOk m) (ms : List Msg) {i : Nat} (hi : i < 28) : (flat (m :: ms))[i]? = m[i]? := by
  unfold flat
  rw [Array.getElem?_append_left (by rw [h.size]; exact hi)]

set_option maxHeartbeats 400000 in
theorem SessionAway_spec {away wait dn : Nat} {w : World} {Q : Cont} (ha : away < 4294967296) (hwt : wait < 4294967296) (hdn : dn < 256)
    (h : ∀ w', Ext [] w w' → Q (.bool true) w') : Ret pg n_lodestarlaw18_SessionAway #[.int .u32 away, .int .u32 wait, .int .u8 dn] Q w := by
  apply lodestarlaw18_SessionAway_ok
  unfold lodestarlaw18_SessionAway lodestarlaw18_SessionAway_j0
  refine alive_spec fun w1 x1 => ?_
  simp
  unfold lodestarlaw18_SessionAway_j1
  refine New_spec (caps := 3) (away := away) (by decide) ha fun w2 g2 x2 hr2 hw2 hf2 ha2 => ?_
  unfold lodestarlaw18_SessionAway_j2
  refine Open_spec hr2 hw2 fun w3 g3 st3 ha3 => ?_
  rw [ha2, away1] at ha3
  unfold lodestarlaw18_SessionAway_j3
  simp
  rw [← st3.blk]
  have l3 : g3.last = 0 := last_of ha3 rfl
  refine In_spec (f := ⟨1, 0, 3, 0, 0⟩) st3.rep st3.wf (now := 0) (by decide) (MsgF.lit rfl rfl ⟨rfl, rfl, rfl, rfl, rfl⟩ (by decide)) (by omega) fun w4 g4 v4 st4 ha4 hT4 => ?_
  rw [ha3, away2] at ha4
  unfold lodestarlaw18_SessionAway_j4
  simp
  have e0 : IntKind.wrap .u32 ((dn : Int).tmod 8) = ((dn % 8 : Nat) : Int) := by
    rw [Int.tmod_eq_emod_of_nonneg (by omega), wrap_u32 _ (by omega) (by omega)]
    omega
  rw [e0]
  have hn7 : dn % 8 ≤ 7 := by omega
  generalize dn % 8 = n at *
  unfold lodestarlaw18_SessionAway_j5 lodestarlaw18_SessionAway_j14 lodestarlaw18_SessionAway_l0
  have st24 := st3.trans st4
  have hrest : ∀ w5 g5 msgs, Step w2 g2 w5 g5 → g5.abs = mK away [1] [sK msgs (some 1)] → msgs.length = n → lodestarlaw18_SessionAway_j6 Q (.int .u32 away) (.int .u32 wait) (pt g2.blk 0) (.int .u32 n) w5 := by
    intro w5 g5 msgs st5 ha5 hmn
    unfold lodestarlaw18_SessionAway_j6
    have l5 : g5.last = 1 := last_of ha5 rfl
    rw [← st5.blk]
    refine Tick_spec st5.rep st5.wf (now := 4294967295) (by decide) (by omega) fun w6 g6 v6 st6 ha6 ho6 hv6 => ?_
    rw [ha5, (away5 _ _ _).1] at ha6
    rw [ha5, (away5 _ _ _).2] at hv6
    obtain ⟨a6, c6, rfl⟩ := hv6.len
    simp
    unfold lodestarlaw18_SessionAway_j7
    rw [← st6.blk]
    refine Close_spec st6.rep st6.wf (now := 0) (by decide) fun w7 g7 st7 _ _ _ ha7 => ?_
    rw [ha6, away6] at ha7
    unfold lodestarlaw18_SessionAway_j8
    have l7 : g7.last = 1 := last_of ha7 rfl
    rw [← st7.blk]
    refine Tick_spec st7.rep st7.wf (now := wait) hwt (by omega) fun w8 g8 v8 st8 ha8 ho8 hv8 => ?_
    unfold lodestarlaw18_SessionAway_j9
    rw [← st8.blk]
    refine Open_spec st8.rep st8.wf fun w9 g9 st9 ha9 => ?_
    unfold lodestarlaw18_SessionAway_j10
    simp
    rw [← st9.blk]
    have l9 : g9.last = 1 := by
      rw [show g9.last = g9.abs.last from rfl, ha9]
      unfold MH.open_
      split <;> (rw [ha8, ha7]; rfl)
    refine In_spec (f := ⟨3, 0, 0, 1, 0⟩) st9.rep st9.wf hwt (MsgF.lit rfl rfl ⟨rfl, rfl, rfl, rfl, rfl⟩ (by decide)) (by omega) fun w10 g10 v10 st10 ha10 hT10 => ?_
    simp [-st_api_Turn]
    refine TurnVar.new st10.rep st10.wf hT10 fun w11 st11 _ tb => ?_
    obtain ⟨vo, vs, k1, k2, k3⟩ := tb.at_
    have stA := st9.trans (st10.trans st11)
    have fin : ∀ w12, Ext [] w11 w12 → Q (.bool true) w12 := fun w12 x12 => h _ ((x1.trans ((Step.outside hf2 x2 (st5.trans (st6.trans (st7.trans (st8.trans stA))))).trans x12 (by simp)) (by simp)))
    rw [ha9] at ha10 k1 k2 k3
    rw [ha9]
    rw [ha7] at ha8 hv8
    unfold lodestarlaw18_SessionAway_j11
    by_cases hw2 : away < wait
    · rw [(away7 _ _ _ hw2).1] at ha8
      rw [(away7 _ _ _ hw2).2] at hv8
      rw [ha8, away9, away10] at ha10 k1 k2 k3
      rw [ha8, away9, away10]
      obtain ⟨vb, rfl, hvb⟩ := k2.some (by show 0 < 1; decide)
      have hone : (shutT 2 5 182).out.length = 1 := rfl
      simp [k1, hone]
      unfold lodestarlaw18_SessionAway_j13
      simp
      unfold lodestarlaw18_SessionAway_j12
      simp
      rw [ifB_pos (by simpa using hw2)]
      obtain ⟨G, cap, cur, rfl, hG, hcur⟩ := hv8.some (by decide)
      have hc0 : cur[0]? = some (eU 1) := hcur 0 _ rfl
      have hGn : g8.own G = .none := by
        rw [ho8]
        exact st7.rep.fresh (hv8.ob_ge G (by simp [ob])).1
      have hG11 : hp w11 G = some (.cells cur 23 (0, 0)) := by rw [stA.same G (lt_of_hp hG) hGn]; exact hG
      have z1 : (flat (shutT 2 5 182).out)[0]? = some (.int .u8 5) := rfl
      have z2 : (flat (shutT 2 5 182).out)[4]? = some (.int .u8 182) := rfl
      simp [hG11, hc0, k1, hone, hvb, z1, z2]
      rw [← st10.blk]
      refine Sessions_spec st11.rep ?_
      have ha10' : g10.abs = mK away [] [] := ha10
      rw [ha10', show (mK away [] []).sess.length = 0 from rfl]
      simp
      exact fin _ (Ext.refl _ _)
    · rw [(away8 _ _ _ hw2).1] at ha8
      rw [(away8 _ _ _ hw2).2] at hv8
      rw [ha8, away9, away11] at ha10 k1 k2 k3
      rw [ha8, away9, away11]
      obtain ⟨vb, rfl, hvb⟩ := k2.some (by simp)
      obtain ⟨a8, c8, rfl⟩ := hv8.len
      simp [k1]
      unfold lodestarlaw18_SessionAway_j13
      simp
      unfold lodestarlaw18_SessionAway_j12
      simp
      rw [ifB_neg (by simpa using hw2)]
      have z1 : (flat [mKN 4 (0 + msgs.length : Nat), mKN 9 8])[0]? = some (.int .u8 4) := (flat_get (mKN_ok _ _) _ (by decide)).trans rfl
      have z2 : (flat [mKN 4 (0 + msgs.length : Nat), mKN 9 8])[5]? = some (.int .u32 (0 + msgs.length : Nat)) := (flat_get (mKN_ok _ _) _ (by decide)).trans rfl
      simp [hmn] at z1 z2 hvb
      simp [k1, hvb, z1, z2]
      rw [← st10.blk]
      refine Sessions_spec st11.rep ?_
      have ha10' : g10.abs = mK away [2] [sK msgs (some 2)] := ha10
      rw [ha10', show (mK away [2] [sK msgs (some 2)]).sess.length = 1 from rfl]
      simp
      exact fin _ (Ext.refl _ _)
  rw [st3.blk]
  refine loopW_intro (fun s w' => ∃ (g : Hb) (msgs : List Msg), s = (.int .u32 away, .int .u32 wait, pt g2.blk 0, .int .u32 n, .int .u32 ((msgs.length + 1 : Nat) : Int)) ∧ msgs.length ≤ n ∧ Step w2 g2 w' g ∧ g.abs = mK away [1] [sK msgs (some 1)])
    (fun s _ => match s.2.2.2.2 with | .int _ i => n + 1 - i.toNat | _ => 0) ⟨g4, [], rfl, by simp, st24, ha4⟩ ?_
  rintro s w5 ⟨g5, msgs, rfl, hk, st5, ha5⟩ next hnext
  unfold lodestarlaw18_SessionAway_l0b
  simp
  by_cases hlt : msgs.length + 1 ≤ n
  · rw [ifB_pos (by simp; omega)]
    unfold lodestarlaw18_SessionAway_j15
    simp
    rw [← st5.blk]
    have l5 : g5.last = 1 := last_of ha5 rfl
    have hxl := xL_ok (i := msgs.length + 1) (by omega)
    simp only [xL, Int.natCast_add, Int.natCast_one] at hxl
    refine In_spec (f := ⟨13, msgs.length + 1, 0, 0, 0⟩) st5.rep st5.wf (now := 0) (by decide) hxl (by omega) fun w6 g6 v6 st6 ha6 hT6 => ?_
    rw [ha5, away3 _ _ (by omega)] at ha6 hT6
    simp [-st_api_Turn]
    refine TurnVar.new st6.rep st6.wf hT6 fun w7 st7 _ ta => ?_
    obtain ⟨vo, vs, k1, k2, k3⟩ := ta.at_
    unfold lodestarlaw18_SessionAway_j17
    simp [k1]
    rw [← st6.blk]
    have hxa := xA_ok (i := msgs.length + 1) (by omega)
    simp only [xA, Int.natCast_add, Int.natCast_one] at hxa
    refine Told_spec (f := ⟨24, msgs.length + 1, 0, 0, 0⟩) (tok := 1) st7.rep st7.wf hxa fun w8 g8 st8 ha8 => ?_
    have ha6' : g6.abs = mK away [1] [sK msgs (some 1)] := ha6
    rw [ha6', away4 _ _ _ (by omega)] at ha8
    rw [ha6', away4 _ _ _ (by omega)]
    simp
    unfold lodestarlaw18_SessionAway_j18
    simp
    unfold lodestarlaw18_SessionAway_j16
    simp
    rw [wrap_u32 _ (by omega) (by omega)]
    have st8' := st5.trans (st6.trans (st7.trans st8))
    refine hnext _ _ ⟨g8, msgs ++ [_], ?_, ?_, st8', ha8⟩ ?_
    · rw [st6.blk, st5.blk]; simp
    · simp; omega
    · simp; omega
  · rw [ifB_neg (by simp; omega)]
    exact hrest w5 g5 msgs st5 ha5 (by omega)
end Go.Proofs.Ytpdcllhmbjnooaa
