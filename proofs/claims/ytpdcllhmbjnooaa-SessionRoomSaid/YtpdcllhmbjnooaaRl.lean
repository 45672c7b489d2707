/- Both hubs at once: as they lie in memory. -/
import Derived.Test.YtpdcllhmbjnooaaRk
namespace Go.Proofs.Ytpdcllhmbjnooaa
open Go.Dc
set_option maxRecDepth 10000

structure Bo where
  gh : Hb
  gr : Rh
  blk : Nat
  now : Nat
  vd : Value
  dn : Nat
  ds : List Value

/-- None of both hubs', nor of what holds them. -/
def Bo.free (x : Bo) (b : Nat) : Prop := x.gh.own b = .none ∧ x.gr.own b = .none ∧ b ≠ x.blk ∧ b ∉ ob x.vd

structure BP (w : World) (x : Bo) : Prop where
  hub : HubRep w x.gh
  wf : x.gh.Wf
  rr : RRep w x.gr
  sep : ∀ b, x.gh.own b ≠ .none → x.gr.own b = .none
  at_ : hp w x.blk = some (.cells #[pt x.gh.blk 0, pt x.gr.blk 0, .int .u32 x.now, x.vd] 72 (0, 0))
  bh : x.gh.own x.blk = .none
  br : x.gr.own x.blk = .none
  vd : Vec w 0 120 2 x.vd x.dn x.ds
  fr : ∀ b ∈ ob x.vd, x.gh.own b = .none ∧ x.gr.own b = .none ∧ b ≠ x.blk

structure BStep (w : World) (x : Bo) (w' : World) (x' : Bo) : Prop where
  os : w'.os = w.os
  tape : w'.tape = w.tape
  output : w'.output = w.output
  size : w.heap.size ≤ w'.heap.size
  same : ∀ b, b < w.heap.size → x.free b → hp w' b = hp w b
  keep : ∀ b, b < w.heap.size → x.free b → x'.free b
  blk : x'.blk = x.blk

theorem BStep.refl (w : World) (x : Bo) : BStep w x w x := ⟨rfl, rfl, rfl, Nat.le_refl _, fun _ _ _ => rfl, fun _ _ h => h, rfl⟩
theorem BStep.trans {w w1 w2 : World} {x x1 x2 : Bo} (h : BStep w x w1 x1) (k : BStep w1 x1 w2 x2) : BStep w x w2 x2 :=
  ⟨k.os.trans h.os, k.tape.trans h.tape, k.output.trans h.output, Nat.le_trans h.size k.size,
    fun b hb hf => (k.same b (Nat.lt_of_lt_of_le hb h.size) (h.keep b hb hf)).trans (h.same b hb hf), fun b hb hf => k.keep b (Nat.lt_of_lt_of_le hb h.size) (h.keep b hb hf), k.blk.trans h.blk⟩

theorem BP.lt {w : World} {x : Bo} (h : BP w x) {b : Nat} (hb : w.heap.size ≤ b) : x.free b :=
  ⟨h.hub.fresh hb, h.rr.fresh hb, fun e => by have := lt_of_hp h.at_; omega, fun hm => by have := (h.vd.ob_ge b hm).2; omega⟩
/-- Free blocks, and new ones, were written. -/
theorem BP.ext {w w' : World} {x : Bo} {S : List Nat} (h : BP w x) (e : Ext S w w') (hS : ∀ b ∈ S, x.free b) : BP w' x := by
  have nS : ∀ b, ¬ x.free b → b ∉ S := fun b hb hs => hb (hS b hs)
  exact ⟨h.hub.ext e fun b hb => (hS b hb).1, h.wf, h.rr.ext e fun b hb => (hS b hb).2.1, h.sep, e.at h.at_ (nS _ fun f => f.2.2.1 rfl), h.bh, h.br, h.vd.ext e fun b hb => nS b fun f => f.2.2.2 hb, h.fr⟩
theorem BStep.of {w w' : World} {x : Bo} {S : List Nat} (e : Ext S w w') (hS : ∀ b ∈ S, w.heap.size ≤ b) : BStep w x w' x :=
  ⟨e.os, e.tape, e.output, e.size, fun b hb _ => e.same b hb (fun hs => by have := hS b hs; omega), fun _ _ h => h, rfl⟩
theorem BStep.idle {w w' : World} (x : Bo) (e : Ext [] w w') : BStep w x w' x := BStep.of e (by simp)
/-- Blocks that are new since the beginning were written. -/
theorem BStep.fresh {w w1 w2 : World} {x x1 : Bo} {S : List Nat} (h : BStep w x w1 x1) (e : Ext S w1 w2) (hS : ∀ b ∈ S, w.heap.size ≤ b) : BStep w x w2 x1 :=
  ⟨e.os.trans h.os, e.tape.trans h.tape, e.output.trans h.output, Nat.le_trans h.size e.size, fun b hb hf => (e.same b (Nat.lt_of_lt_of_le hb h.size) (fun hs => by have := hS b hs; omega)).trans (h.same b hb hf), h.keep, h.blk⟩

open Classical in
theorem ext_of_same {P : Nat → Prop} {w w' : World} (h1 : w'.os = w.os) (h2 : w'.tape = w.tape) (h3 : w'.output = w.output) (h4 : w.heap.size ≤ w'.heap.size) (h : ∀ b, b < w.heap.size → P b → hp w' b = hp w b) :
    ∃ S : List Nat, Ext S w w' ∧ ∀ b ∈ S, ¬ P b := by
  refine ⟨(List.range w.heap.size).filter fun b => decide (¬ P b), ⟨h1, h2, h3, h4, fun b hb hs => h b hb ?_⟩, fun b hb => ?_⟩
  · refine Classical.byContradiction fun hp => hs (List.mem_filter.2 ⟨List.mem_range.2 hb, by simpa using hp⟩)
  · simpa using (List.mem_filter.1 hb).2

/-- The program's hub made a step. -/
theorem BP.hstep {w w' : World} {x : Bo} {g' : Hb} (h : BP w x) (st : Step w x.gh w' g') : BP w' { x with gh := g' } ∧ BStep w x w' { x with gh := g' } := by
  obtain ⟨S, e, hS⟩ := ext_of_same (P := fun b => x.gh.own b = .none) st.os st.tape st.output st.size st.same
  have nS : ∀ b, x.gh.own b = .none → b ∉ S := fun b hb hs => hS b hs hb
  have ho : ∀ b, b < w.heap.size → x.gh.own b = .none → g'.own b = .none := st.own
  have hn : ∀ b, x.gr.own b ≠ .none → x.gh.own b = .none := fun b hb => Classical.byContradiction fun hh => hb (h.sep b hh)
  refine ⟨⟨st.rep, st.wf, h.rr.ext e fun b hb => ?_, fun b hb => ?_, ?_, ho _ (lt_of_hp h.at_) h.bh, h.br, h.vd.ext e fun b hb => nS b (h.fr b hb).1, fun b hb => ⟨ho b (h.vd.ob_ge b hb).2 (h.fr b hb).1, (h.fr b hb).2⟩⟩,
    ⟨st.os, st.tape, st.output, st.size, fun b hb hf => st.same b hb hf.1, fun b hb hf => ⟨ho b hb hf.1, hf.2⟩, rfl⟩⟩
  · exact Classical.byContradiction fun hh => hS b hb (hn b hh)
  · by_cases hlt : b < w.heap.size
    · refine Classical.byContradiction fun hh => hb (ho b hlt (hn b hh))
    · exact h.rr.fresh (by omega)
  · show hp w' x.blk = some (.cells #[pt g'.blk 0, pt x.gr.blk 0, .int .u32 x.now, x.vd] 72 (0, 0))
    rw [st.blk, e.same x.blk (lt_of_hp h.at_) (nS _ h.bh)]
    exact h.at_
/-- The reference's hub made a step. -/
theorem BP.rstep {w w' : World} {x : Bo} {g' : Rh} (h : BP w x) (st : RStep w x.gr w' g') : BP w' { x with gr := g' } ∧ BStep w x w' { x with gr := g' } := by
  obtain ⟨S, e, hS⟩ := ext_of_same (P := fun b => x.gr.own b = .none) st.os st.tape st.output st.size st.same
  have nS : ∀ b, x.gr.own b = .none → b ∉ S := fun b hb hs => hS b hs hb
  have ho : ∀ b, b < w.heap.size → x.gr.own b = .none → g'.own b = .none := st.own
  refine ⟨⟨h.hub.ext e fun b hb => ?_, h.wf, st.rep, fun b hb => ho b (h.hub.lt b hb) (h.sep b hb), ?_, h.bh, ho _ (lt_of_hp h.at_) h.br, h.vd.ext e fun b hb => nS b (h.fr b hb).2.1, fun b hb => ⟨(h.fr b hb).1, ho b (h.vd.ob_ge b hb).2 (h.fr b hb).2.1, (h.fr b hb).2.2⟩⟩,
    ⟨st.os, st.tape, st.output, st.size, fun b hb hf => st.same b hb hf.2.1, fun b hb hf => ⟨hf.1, ho b hb hf.2.1, hf.2.2⟩, rfl⟩⟩
  · exact Classical.byContradiction fun hh => hS b hb (h.sep b hh)
  · show hp w' x.blk = some (.cells #[pt x.gh.blk 0, pt g'.blk 0, .int .u32 x.now, x.vd] 72 (0, 0))
    rw [st.blk, e.same x.blk (lt_of_hp h.at_) (nS _ h.br)]
    exact h.at_

/-! ### Turns in variables -/

def LOwn (w : World) (x : Bo) (v : Value) (T : TypeId) (n : Nat) (cs : Array Value) : Prop :=
  (n = 0 ∧ v = .slice none 0 0) ∨ ∃ b, x.free b ∧ v = .slice (some ⟨b, 0, none⟩) n n ∧ hp w b = some (.cells cs T (0, 0))
theorem LOwn.step {w w' : World} {x x' : Bo} {v : Value} {T n : Nat} {cs : Array Value} (h : LOwn w x v T n cs) (st : BStep w x w' x') : LOwn w' x' v T n cs := by
  rcases h with h | ⟨b, h1, h2, h3⟩
  · exact .inl h
  · exact .inr ⟨b, st.keep b (lt_of_hp h3) h1, h2, by rw [st.same b (lt_of_hp h3) h1]; exact h3⟩
theorem LOwn.own {w : World} {x : Bo} {v : Value} {T n : Nat} {cs : Array Value} (h : LOwn w x v T n cs) : Own w (fun _ => .none) 0 v T n cs := by
  rcases h with h | ⟨b, h1, h2, h3⟩
  · exact .inl h
  · exact .inr ⟨b, Nat.zero_le _, rfl, h2, h3⟩
theorem LOwn.of {w : World} {x : Bo} {own : Nat → Tag} {base : Nat} {v : Value} {T n : Nat} {cs : Array Value} (h : Own w own base v T n cs) (hf : ∀ b, base ≤ b → own b = .none → x.free b) : LOwn w x v T n cs := by
  rcases h with h | ⟨b, h0, h1, h2, h3⟩
  · exact .inl h
  · exact .inr ⟨b, hf b h0 h1, h2, h3⟩

/-- A turn. -/
structure TB (w : World) (x : Bo) (v : Value) (t : MT) : Prop where
  at_ : ∃ vo vs, v = .agg #[vo, vs, .bool t.do_, .int .u64 t.tok] ∧ LOwn w x vo 37 t.out.length (flat t.out) ∧ LOwn w x vs 3 t.shut.length (t.shut.map (Value.int .i64)).toArray
  out : ∀ m ∈ t.out, MsgOk m
theorem TB.step {w w' : World} {x x' : Bo} {v : Value} {t : MT} (h : TB w x v t) (st : BStep w x w' x') : TB w' x' v t := by
  obtain ⟨vo, vs, h1, h2, h3⟩ := h.at_
  exact ⟨⟨vo, vs, h1, h2.step st, h3.step st⟩, h.out⟩
theorem TB.rep {w : World} {x : Bo} {v : Value} {t : MT} (h : TB w x v t) : TurnRep w (fun _ => .none) 0 v t := by
  obtain ⟨vo, vs, h1, h2, h3⟩ := h.at_
  exact ⟨⟨vo, vs, h1, h2.own, h3.own⟩, h.out⟩
theorem TB.of {w : World} {x : Bo} {own : Nat → Tag} {base : Nat} {v : Value} {t : MT} (h : TurnRep w own base v t) (hf : ∀ b, base ≤ b → own b = .none → x.free b) : TB w x v t := by
  obtain ⟨vo, vs, h1, h2, h3⟩ := h.at_
  exact ⟨⟨vo, vs, h1, LOwn.of h2 hf, LOwn.of h3 hf⟩, h.out⟩
/-- A variable that holds a turn. -/
structure TV (w : World) (x : Bo) (vb : Nat) (v : Value) (t : MT) : Prop where
  tb : TB w x v t
  cs : ∃ c, v = .agg c ∧ c.size = 4 ∧ hp w vb = some (.cells c 45 (0, 0))
  fr : x.free vb
theorem TV.step {w w' : World} {x x' : Bo} {vb : Nat} {v : Value} {t : MT} (h : TV w x vb v t) (st : BStep w x w' x') : TV w' x' vb v t := by
  obtain ⟨c, h1, h2, h3⟩ := h.cs
  exact ⟨h.tb.step st, ⟨c, h1, h2, by rw [st.same vb (lt_of_hp h3) h.fr]; exact h3⟩, st.keep vb (lt_of_hp h3) h.fr⟩
/-- Where a turn's lists lie. -/
def inR (lo hi : Nat) (v : Value) : Prop := ∀ cs, v = .agg cs → ∀ u ∈ cs, ∀ a n k, u = .slice (some a) n k → lo ≤ a.block ∧ a.block < hi
theorem inR_of {w : World} {own : Nat → Tag} {base : Nat} {v : Value} {t : MT} (h : TurnRep w own base v t) : inR base w.heap.size v := by
  obtain ⟨vo, vs, rfl, h1, h2⟩ := h.at_
  intro cs hcs u hu a n k hua
  injection hcs with hcs
  subst hcs
  simp at hu
  rcases hu with rfl | rfl | rfl | rfl
  · rcases h1 with ⟨_, rfl⟩ | ⟨b, q1, _, rfl, q2⟩
    · cases hua
    · injection hua with hua; injection hua with hua; subst hua; exact ⟨q1, lt_of_hp q2⟩
  · rcases h2 with ⟨_, rfl⟩ | ⟨b, q1, _, rfl, q2⟩
    · cases hua
    · injection hua with hua; injection hua with hua; subst hua; exact ⟨q1, lt_of_hp q2⟩
  · cases hua
  · cases hua
/-- A turn is put into a variable. -/
theorem TV.store {w : World} {x : Bo} {vb lo hi : Nat} {v : Value} {t : MT} {K : World → Prop} {c : Array Value} (h : TB w x v t) (hp0 : BP w x) (hf : x.free vb) (hv : hp w vb = some (.cells c 45 (0, 0))) (hc : c.size = 4)
    (hr : inR lo hi v) (hne : vb < lo ∨ hi ≤ vb)
    (hk : ∀ w', Ext [vb] w w' → BP w' x → TV w' x vb v t → K w') : st 45 (pt vb 0) v (fun _ => K) w := by
  obtain ⟨vo, vs, rfl, h1, h2⟩ := h.at_
  have hlt := lt_of_hp hv
  have o1 := h1.own.one
  have o2 := h2.own.one
  simp [hv, hc, o1, o2]
  have e : Ext [vb] w (put w vb (.cells #[vo, vs, .bool t.do_, .int .u64 t.tok] 45 (0, 0))) := Ext.put (Ext.refl _ _) (.inl (by simp))
  refine hk _ e (hp0.ext e (by simpa using hf)) ⟨⟨⟨vo, vs, rfl, ?_, ?_⟩, h.out⟩, ⟨_, rfl, rfl, by simp [hlt]⟩, hf⟩
  · rcases h1 with h1 | ⟨b, q1, q2, q3⟩
    · exact .inl h1
    · have := hr _ rfl vo (by simp) _ _ _ q2
      exact .inr ⟨b, q1, q2, e.at q3 (by simp at this ⊢; omega)⟩
  · rcases h2 with h2 | ⟨b, q1, q2, q3⟩
    · exact .inl h2
    · have := hr _ rfl vs (by simp) _ _ _ q2
      exact .inr ⟨b, q1, q2, e.at q3 (by simp at this ⊢; omega)⟩

/-- All that stays. -/
structure BI (w : World) (x : Bo) (k : Nat) : Prop where
  bp : BP w x
  sim : x.gr.abs = x.gh.abs
  z : x.gr.Z
  lim : x.gh.abs.Lim k
  dn : x.dn ≤ k
  now : x.now < 4294967296

theorem BI.ext {w w' : World} {x : Bo} {k : Nat} {S : List Nat} (h : BI w x k) (e : Ext S w w') (hS : ∀ b ∈ S, x.free b) : BI w' x k := { h with bp := h.bp.ext e hS }
theorem BI.ok {w : World} {x : Bo} {k : Nat} (h : BI w x k) : x.gr.abs.Ok := by rw [h.sim]; exact ok_of_wf h.bp.hub h.bp.wf
theorem BI.last {w : World} {x : Bo} {k : Nat} (h : BI w x k) (hk : k ≤ 100000) : x.gh.last + 1 < 18446744073709551616 := by
  have := h.lim.last
  have e : x.gh.abs.last = x.gh.last := rfl
  omega
theorem BI.rlast {w : World} {x : Bo} {k : Nat} (h : BI w x k) (hk : k ≤ 100000) : x.gr.last + 1 < 18446744073709551616 := by
  have := h.lim.last
  rw [← h.sim] at this
  have e : x.gr.abs.last = x.gr.last := rfl
  omega
theorem BI.rtok {w : World} {x : Bo} {k : Nat} (h : BI w x k) : ∀ s ∈ x.gr.sess, s.tok ≤ x.gr.last := by
  intro s hs
  have h1 : s.abs ∈ x.gr.abs.sess := List.mem_map.2 ⟨s, hs, rfl⟩
  have h2 : x.gr.last = x.gh.last := congrArg MH.last h.sim
  rw [h.sim] at h1
  obtain ⟨t, ht, he⟩ := List.mem_map.1 h1
  have h3 := (h.bp.wf.tok t ht).2
  have h4 : t.tok = s.tok := congrArg MS.tok he
  omega
theorem BI.rlen {w : World} {x : Bo} {k : Nat} (h : BI w x k) (hk : k ≤ 100000) : ∀ s ∈ x.gr.sess, s.ans.length + 1 < 1073741824 := by
  intro s hs
  have h1 : s.abs ∈ x.gr.abs.sess := List.mem_map.2 ⟨s, hs, rfl⟩
  rw [h.sim] at h1
  have h2 := h.lim.done _ h1
  rw [done_abs (h.bp.rr.sess s hs).ack] at h2
  omega
theorem BI.r8 {w : World} {x : Bo} {k : Nat} (h : BI w x k) : x.gr.sess.length ≤ 8 := by
  have := h.ok.ls
  unfold Rh.abs at this
  simpa using this

/-- Both hubs made the same step. -/
theorem BI.both {w w1 w2 : World} {x : Bo} {k l : Nat} {g1 : Hb} {g2 : Rh} (h : BI w x k) (st1 : Step w x.gh w1 g1) (st2 : RStep w1 x.gr w2 g2) (he : g2.abs = g1.abs) (hl : g1.abs.Lim l) (hk : k ≤ l) :
    BI w2 { x with gh := g1, gr := g2 } l ∧ BStep w x w2 { x with gh := g1, gr := g2 } := by
  obtain ⟨p1, s1⟩ := h.bp.hstep st1
  obtain ⟨p2, s2⟩ := p1.rstep st2
  exact ⟨⟨p2, he, st2.z h.z, hl, Nat.le_trans h.dn hk, h.now⟩, s1.trans s2⟩

structure OpF (o : Array Value) (kind : Nat) (conn : Int) (m : Msg) (f : MF) (num ahead : Nat) (tell : Bool) : Prop where
  size : o.size = 32
  one : ∀ v ∈ o, v.oneCell' = true
  c0 : o[0]? = some (.int .u8 kind)
  c1 : o[1]? = some (.int .i64 conn)
  ex : o.extract 2 30 = m
  mf : MsgF m f
  c21 : m[21]? = some (.int .u32 num)
  c30 : o[30]? = some (.int .u32 ahead)
  c31 : o[31]? = some (.bool tell)
  b0 : kind < 256
  b30 : ahead < 4294967296
theorem OpF.row {o : Array Value} {kind : Nat} {conn : Int} {m : Msg} {f : MF} {num ahead : Nat} {tell : Bool} (h : OpF o kind conn m f num ahead tell) (T : TypeId) (fr : Nat × Nat) : rowOf (some (.cells o T fr)) 2 28 = some (.agg m) := by
  rw [rowOf_part _ _ _ _ _ (by rw [h.size]; decide), h.ex]
end Go.Proofs.Ytpdcllhmbjnooaa
