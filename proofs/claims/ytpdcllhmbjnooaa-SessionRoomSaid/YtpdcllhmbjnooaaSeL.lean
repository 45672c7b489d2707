/- Sessions: what is told; turns in variables; a hub is alive. -/
import Derived.Test.YtpdcllhmbjnooaaSeK
namespace Go.Proofs.Ytpdcllhmbjnooaa
open Go.Dc
set_option maxRecDepth 10000

def MH.told (m : MH) (tok req : Nat) (x : Msg) : MH × Nat :=
  match m.find tok with
  | none => (m, 182)
  | some s => (m.put (s.keep req x), s.tb.keepE req)

theorem Told_spec {w : World} {g : Hb} {tok : Nat} {m : Msg} {f : MF} {Q : Cont} (hr : HubRep w g) (hw : g.Wf) (hm : MsgF m f)
    (h : ∀ w' g', Step w g w' g' → g'.abs = (g.abs.told tok f.req m).1 → Q (I (g.abs.told tok f.req m).2) w') : Ret pg n_session_Hub_Told #[pt g.blk 0, .int .u64 tok, .agg m] Q w := by
  apply session_Hub_Told_ok
  unfold session_Hub_Told
  have hlt := lt_of_hp hr.at_
  have hr1 := hr.alloc (.cells m 37)
  have hm1 : hp (w.alloc (.cells m 37)) w.heap.size = some (.cells m 37 (0, 0)) := by simp
  have st1 : Step w g (w.alloc (.cells m 37)) g := Step.idle hr hw ((Ext.refl _ _).alloc)
  have e1 : g.blk ≠ w.heap.size := by omega
  simp [hr.at_, e1]
  generalize hW1 : w.alloc (.cells m 37) = w1 at *
  rw [lk_map_uint64_p_session_session hr1.mapS, getS]
  unfold MH.told at h
  rw [find_abs] at h
  cases hf : g.findS tok with
  | none =>
    rw [hf] at h
    simp
    exact h w1 g st1 rfl
  | some s =>
    rw [hf] at h
    obtain ⟨hs, htok⟩ := findS_mem hf
    have hS := hr1.sess s hs
    have hat := hS.at_
    unfold Ss.cells at hat
    simp [hat, hm1, hm.k1, rowOf_whole _ _ _ _ hm.ok.size]
    refine dedup_Keep_spec (t := s.t) (hS.tb.ext ((Ext.refl [] w1).drw) (by simp) (by simp)) hm.b1 hm.ok fun w2 x2 ht => ?_
    have st2 := keep_step hr1 hw hs (((Ext.refl _ _).drw).trans x2 (by simp)) ht
    have ha2 := setS_abs (s' := { s with t := s.t.keep f.req m }) hr1 hs rfl
    rw [keep_abs] at ha2
    exact h w2 _ (st1.trans st2) ha2

/-! ### Turns in variables -/

theorem Own.step {w w' : World} {g g' : Hb} {base : Nat} {v : Value} {T n : Nat} {cs : Array Value} (h : Own w g.own base v T n cs) (st : Step w g w' g') : Own w' g'.own base v T n cs := by
  rcases h with h | ⟨b, h1, h2, h3, h4⟩
  · exact .inl h
  · exact .inr ⟨b, h1, st.own b (lt_of_hp h4) h2, h3, by rw [st.same b (lt_of_hp h4) h2]; exact h4⟩

/-- A turn in a variable's block, none of the hub's. -/
structure TurnVar (w : World) (g : Hb) (vb : Nat) (t : MT) : Prop where
  at_ : ∃ vo vs, hp w vb = some (.cells #[vo, vs, .bool t.do_, .int .u64 t.tok] 45 (0, 0)) ∧ Own w g.own 0 vo 37 t.out.length (flat t.out) ∧ Own w g.own 0 vs 3 t.shut.length (t.shut.map (Value.int .i64)).toArray
  own : g.own vb = .none
  out : ∀ m ∈ t.out, MsgOk m

theorem TurnVar.step {w w' : World} {g g' : Hb} {vb : Nat} {t : MT} (h : TurnVar w g vb t) (st : Step w g w' g') : TurnVar w' g' vb t := by
  obtain ⟨vo, vs, h1, h2, h3⟩ := h.at_
  exact ⟨⟨vo, vs, by rw [st.same _ (lt_of_hp h1) h.own]; exact h1, h2.step st, h3.step st⟩, st.own _ (lt_of_hp h1) h.own, h.out⟩

/-- What a call hands back goes into a new variable. -/
theorem TurnVar.new {w : World} {g : Hb} {base : Nat} {v : Value} {t : MT} {K : World → Prop} (hr : HubRep w g) (hw : g.Wf) (hT : TurnRep w g.own base v t) (h : ∀ w', Step w g w' g → w.heap.size < w'.heap.size → TurnVar w' g w.heap.size t → K w') :
    st 45 (pt w.heap.size 0) v (fun _ => K) (w.alloc (.cells #[.slice none 0 0, .slice none 0 0, .bool false, .int .u64 0] 45)) := by
  obtain ⟨vo, vs, rfl, h1, h2⟩ := hT.at_
  have ho : g.own w.heap.size = .none := hr.fresh (Nat.le_refl _)
  simp [h1.one, h2.one]
  have e : Ext [] w (put (w.alloc (.cells #[.slice none 0 0, .slice none 0 0, .bool false, .int .u64 0] 45)) w.heap.size (.cells #[vo, vs, .bool t.do_, .int .u64 t.tok] 45 (0, 0))) := ((Ext.refl _ _).alloc).put (.inr (Nat.le_refl _))
  have hT2 := hT.ext e (by simp)
  obtain ⟨vo', vs', he, h1', h2'⟩ := hT2.at_
  simp at he
  obtain ⟨rfl, rfl⟩ := he
  refine h _ (Step.idle hr hw e) (by simp) ⟨⟨vo, vs, by simp, ?_, ?_⟩, ho, hT.out⟩
  · rcases h1' with k | ⟨b, k1, k⟩
    · exact .inl k
    · exact .inr ⟨b, Nat.zero_le _, k⟩
  · rcases h2' with k | ⟨b, k1, k⟩
    · exact .inl k
    · exact .inr ⟨b, Nat.zero_le _, k⟩

theorem Own.len42 {w : World} {own : Nat → Tag} {base : Nat} {v : Value} {n : Nat} {cs : Array Value} (h : Own w own base v 37 n cs) (k : Cont) (w1 : World) : b_len #[42] 3 #[v] k w1 = k (I n) w1 := by
  rcases h with ⟨rfl, rfl⟩ | ⟨b, _, _, rfl, _⟩ <;> simp
theorem Own.len43 {w : World} {own : Nat → Tag} {base : Nat} {v : Value} {n : Nat} {cs : Array Value} (h : Own w own base v 3 n cs) (k : Cont) (w1 : World) : b_len #[43] 3 #[v] k w1 = k (I n) w1 := by
  rcases h with ⟨rfl, rfl⟩ | ⟨b, _, _, rfl, _⟩ <;> simp
theorem Own.len42q {w : World} {own : Nat → Tag} {base : Nat} {v : Value} {n : Nat} {cs : Array Value} (h : Own w own base v 37 n cs) (k : Value → Prop) (w1 : World) : b_lenq #[42] 3 #[v] k w1 = k (I n) := by
  rcases h with ⟨rfl, rfl⟩ | ⟨b, _, _, rfl, _⟩ <;> simp
theorem Own.len43q {w : World} {own : Nat → Tag} {base : Nat} {v : Value} {n : Nat} {cs : Array Value} (h : Own w own base v 3 n cs) (k : Value → Prop) (w1 : World) : b_lenq #[43] 3 #[v] k w1 = k (I n) := by
  rcases h with ⟨rfl, rfl⟩ | ⟨b, _, _, rfl, _⟩ <;> simp
/-- Where there is something in a list, where it lies. -/
theorem Own.some {w : World} {own : Nat → Tag} {base : Nat} {v : Value} {T n : Nat} {cs : Array Value} (h : Own w own base v T n cs) (hn : 0 < n) : ∃ b, v = .slice (.some ⟨b, 0, none⟩) n n ∧ hp w b = .some (.cells cs T (0, 0)) := by
  rcases h with ⟨h, _⟩ | ⟨b, _, _, h1, h2⟩
  · omega
  · exact ⟨b, h1, h2⟩

/-- A hub made within a call leaves what was there. -/
theorem Step.outside {w w1 w2 : World} {g g2 : Hb} (hf : ∀ b, b < w.heap.size → g.own b = .none) (x : Ext [] w w1) (st : Step w1 g w2 g2) : Ext [] w w2 :=
  ⟨st.os.trans x.os, st.tape.trans x.tape, st.output.trans x.output, Nat.le_trans x.size st.size, fun b hb _ => (st.same b (Nat.lt_of_lt_of_le hb x.size) (hf b hb)).trans (x.same b hb (by simp))⟩

/-! ### Alive -/

def m0 : MH := ⟨3, 4, 9, 0, [], []⟩
def f1 : MF := ⟨7, 0, 0, 0, 0⟩
def f2 : MF := ⟨1, 0, 3, 0, 0⟩
def f3 : MF := ⟨13, 1, 0, 0, 0⟩
def x4 : Msg := ((zMsg.setIfInBounds 0 (.int .u8 24)).setIfInBounds 1 (.int .u32 1)).setIfInBounds 21 (.int .u32 7)
def m2 : MH := (m0.open_ 5).open_ 6
def m3 : MH := (m2.in_ 5 0 f1).1
def m4 : MH := (m3.in_ 6 0 f2).1
def m5 : MH := (m4.in_ 6 0 f3).1
def m6 : MH := (m5.told 1 1 x4).1
theorem q1 : m0.openE 5 = 0 ∧ (m0.open_ 5).openE 6 = 0 := by decide
theorem q2 : (m2.in_ 5 0 f1).2.1 = shutT 5 6 180 := by rfl
theorem q3 : (m3.in_ 6 0 f2).2.1 = ⟨[mWel 3 1 4], [], false, 0⟩ := by rfl
theorem q4 : (m4.in_ 6 0 f3).2.1 = ⟨[], [], true, 1⟩ := by rfl
theorem q5 : (m5.told 1 1 x4).2 = 0 := by rfl
theorem q6 : (m6.in_ 6 0 f3).2.1 = ⟨[x4], [], false, 0⟩ := by rfl

theorem p2 : ((⟨3, 4, 9, 0, [], []⟩ : MH).open_ 5).open_ 6 = m2 := by unfold m2 m0; rfl
theorem p3 : (m2.in_ 5 0 f1).1 = m3 := by unfold m3; rfl
theorem p4 : (m3.in_ 6 0 f2).1 = m4 := by unfold m4; rfl
theorem p5 : (m4.in_ 6 0 f3).1 = m5 := by unfold m5; rfl
theorem p6 : (m5.told 1 1 x4).1 = m6 := by unfold m6; rfl
theorem e2 : m2.last = 0 := by rfl
theorem e3 : m3.last = 0 := by rfl
theorem e4 : m4.last = 1 := by rfl
theorem e6 : m6.last = 1 := by rfl
theorem last_of {g : Hb} {m : MH} {n : Nat} (h : g.abs = m) (e : m.last = n) : g.last = n := by rw [← e, ← h]; rfl

theorem MsgF.lit {m : Msg} {f : MF} (h1 : m.size = 28) (h2 : m.toList.all Value.oneCell' = true) (h3 : m[0]? = some (.int .u8 f.kind) ∧ m[1]? = some (.int .u32 f.req) ∧ m[2]? = some (.int .u32 f.caps) ∧ m[3]? = some (.int .u64 f.tok) ∧ m[5]? = some (.int .u32 f.n))
    (h4 : f.kind < 256 ∧ f.req < 4294967296 ∧ f.caps < 4294967296 ∧ f.tok < 18446744073709551616 ∧ f.n < 4294967296) : MsgF m f :=
  ⟨⟨h1, one_of_all h2⟩, h3.1, h3.2.1, h3.2.2.1, h3.2.2.2.1, h3.2.2.2.2, h4.1, h4.2.1, h4.2.2.1, h4.2.2.2.1, h4.2.2.2.2⟩

theorem alive_spec {w : World} {Q : Cont} (h : ∀ w', Ext [] w w' → Q (.bool true) w') : Ret pg n_lodestarlaw18_alive #[] Q w := by
  apply lodestarlaw18_alive_ok
  unfold lodestarlaw18_alive lodestarlaw18_alive_j0
  refine New_spec (caps := 3) (away := 9) (by decide) (by decide) fun w1 g1 x1 hr1 hw1 hf1 ha1 => ?_
  unfold lodestarlaw18_alive_j1
  simp
  refine Open_spec hr1 hw1 fun w2 g2 st2 ha2 => ?_
  rw [ha1] at ha2
  rw [ha1, show (⟨3, 4, 9, 0, [], []⟩ : MH).openE 5 = 0 from q1.1]
  simp
  rw [← st2.blk]
  refine Open_spec st2.rep st2.wf fun w3 g3 st3 ha3 => ?_
  rw [ha2] at ha3
  rw [ha2, show ((⟨3, 4, 9, 0, [], []⟩ : MH).open_ 5).openE 6 = 0 from q1.2]
  rw [p2] at ha3
  simp
  unfold lodestarlaw18_alive_j3
  simp
  unfold lodestarlaw18_alive_j2
  simp
  rw [← st3.blk]
  have l3 : g3.last = 0 := last_of ha3 e2
  refine In_spec (f := f1) st3.rep st3.wf (now := 0) (by decide) (MsgF.lit rfl rfl ⟨rfl, rfl, rfl, rfl, rfl⟩ (by decide)) (by omega) fun w4 g4 v4 st4 ha4 hT4 => ?_
  rw [ha3] at ha4 hT4
  rw [q2] at hT4
  rw [p3] at ha4
  simp [-st_api_Turn]
  refine TurnVar.new st4.rep st4.wf hT4 fun w5 st5 _ ta => ?_
  simp
  rw [← st4.blk]
  have l4 : g4.last = 0 := last_of ha4 e3
  refine In_spec (f := f2) st5.rep st5.wf (now := 0) (by decide) (MsgF.lit rfl rfl ⟨rfl, rfl, rfl, rfl, rfl⟩ (by decide)) (by omega) fun w6 g6 v6 st6 ha6 hT6 => ?_
  rw [ha4] at ha6 hT6
  rw [q3] at hT6
  rw [p4] at ha6
  simp [-st_api_Turn]
  refine TurnVar.new st6.rep st6.wf hT6 fun w7 st7 _ tb => ?_
  simp
  rw [← st6.blk]
  have l6 : g6.last = 1 := last_of ha6 e4
  refine In_spec (f := f3) st7.rep st7.wf (now := 0) (by decide) (MsgF.lit rfl rfl ⟨rfl, rfl, rfl, rfl, rfl⟩ (by decide)) (by omega) fun w8 g8 v8 st8 ha8 hT8 => ?_
  rw [ha6] at ha8 hT8
  rw [q4] at hT8
  rw [p5] at ha8
  simp [-st_api_Turn]
  refine TurnVar.new st8.rep st8.wf hT8 fun w9 st9 _ tc => ?_
  obtain ⟨vo, vs, k1, k2, k3⟩ := tc.at_
  simp [k1]
  rw [← st8.blk]
  refine Told_spec (tok := 1) (m := x4) (f := ⟨24, 1, 0, 0, 0⟩) st9.rep st9.wf (MsgF.lit rfl rfl ⟨rfl, rfl, rfl, rfl, rfl⟩ (by decide)) fun w10 g10 st10 ha10 => ?_
  rw [ha8] at ha10
  rw [ha8]
  rw [p6] at ha10
  simp
  rw [← st10.blk]
  have l10 : g10.last = 1 := last_of ha10 e6
  refine In_spec (f := f3) st10.rep st10.wf (now := 0) (by decide) (MsgF.lit rfl rfl ⟨rfl, rfl, rfl, rfl, rfl⟩ (by decide)) (by omega) fun w11 g11 v11 st11 ha11 hT11 => ?_
  rw [ha10] at ha11 hT11
  rw [q6] at hT11
  simp [-st_api_Turn]
  refine TurnVar.new st11.rep st11.wf hT11 fun w12 st12 _ td => ?_
  have ta12 := ta.step (st6.trans (st7.trans (st8.trans (st9.trans (st10.trans (st11.trans st12))))))
  have tb12 := tb.step (st8.trans (st9.trans (st10.trans (st11.trans st12))))
  have tc12 := tc.step (st10.trans (st11.trans st12))
  obtain ⟨vo1, vs1, k1, k2, k3⟩ := ta12.at_
  obtain ⟨vo2, vs2, k4, k5, k6⟩ := tb12.at_
  obtain ⟨vo3, vs3, k7, k8, k9⟩ := tc12.at_
  obtain ⟨vo4, vs4, k10, k11, k12⟩ := td.at_
  obtain ⟨b1, rfl, hb1⟩ := k3.some (by decide)
  obtain ⟨b2, rfl, hb2⟩ := k5.some (by decide)
  obtain ⟨b4, rfl, hb4⟩ := k11.some (by decide)
  have r1 : (flat [mWel 3 1 4])[3]? = some (.int .u64 1) := rfl
  have r2 : (flat [mWel 3 1 4])[5]? = some (.int .u32 4) := rfl
  have r3 : (flat [x4])[21]? = some (.int .u32 7) := rfl
  have r4 : (shutT 5 6 180).shut.length = 1 := rfl
  simp [k1, k4, k7, k10, hb2, hb4, r1, r2, r3, r4, q5]
  exact h _ (Step.outside hf1 x1 (st2.trans (st3.trans (st4.trans (st5.trans (st6.trans (st7.trans (st8.trans (st9.trans (st10.trans (st11.trans st12)))))))))))
end Go.Proofs.Ytpdcllhmbjnooaa
