/- Sessions: the hub's calls, against a model without places. -/
import Derived.Test.YtpdcllhmbjnooaaSeC
namespace Go.Proofs.Ytpdcllhmbjnooaa
open Go.Dc
set_option maxRecDepth 10000

structure MS where
  tok : Nat
  caps : Nat
  msgs : List Msg
  acked : Nat
  wsize : Nat
  limit : Nat
  conn : Option Int
  since : Nat
structure MH where
  caps : Nat
  size : Int
  away : Nat
  last : Nat
  conns : List Int
  sess : List MS

def MS.done (s : MS) : Nat := s.acked + s.msgs.length
def Ss.abs (s : Ss) : MS := ⟨s.tok, s.caps, s.t.msgs, s.t.acked, s.win.size, s.win.limit, s.conn.map (·.2), s.since⟩
def Hb.abs (g : Hb) : MH := ⟨g.caps, g.size, g.away, g.last, g.conns.map (·.n), g.sess.map Ss.abs⟩

structure Hb.Wf (g : Hb) : Prop where
  cs : ∀ c ∈ g.conns, ∀ sb, c.sess = some sb → ∃ s ∈ g.sess, s.blk = sb ∧ s.conn = some (c.blk, c.n)
  sc : ∀ s ∈ g.sess, ∀ cb n, s.conn = some (cb, n) → ∃ c ∈ g.conns, c.blk = cb ∧ c.n = n ∧ c.sess = some s.blk
  lc : g.conns.length ≤ 8
  ls : g.sess.length ≤ 8
  tok : ∀ s ∈ g.sess, 1 ≤ s.tok ∧ s.tok ≤ g.last
  asc : (g.sess.map (·.tok)).Pairwise (· < ·)
  caps : g.caps < 4294967296
  away : g.away < 4294967296
  scaps : ∀ s ∈ g.sess, s.caps < 4294967296
  since : ∀ s ∈ g.sess, s.since < 4294967296

/-- From one world to another with the hub gone from g to g'. -/
structure Step (w : World) (g : Hb) (w' : World) (g' : Hb) : Prop where
  os : w'.os = w.os
  tape : w'.tape = w.tape
  output : w'.output = w.output
  size : w.heap.size ≤ w'.heap.size
  same : ∀ b, b < w.heap.size → g.own b = .none → hp w' b = hp w b
  own : ∀ b, b < w.heap.size → g.own b = .none → g'.own b = .none
  rep : HubRep w' g'
  wf : g'.Wf
  blk : g'.blk = g.blk

theorem Step.trans {w w1 w2 : World} {g g1 g2 : Hb} (h : Step w g w1 g1) (k : Step w1 g1 w2 g2) : Step w g w2 g2 :=
  ⟨k.os.trans h.os, k.tape.trans h.tape, k.output.trans h.output, Nat.le_trans h.size k.size,
    fun b hb ho => (k.same b (Nat.lt_of_lt_of_le hb h.size) (h.own b hb ho)).trans (h.same b hb ho),
    fun b hb ho => k.own b (Nat.lt_of_lt_of_le hb h.size) (h.own b hb ho), k.rep, k.wf, k.blk.trans h.blk⟩

theorem Step.of {w w' : World} {g g' : Hb} {S : List Nat} (e : Ext S w w') (hS : ∀ b ∈ S, b < w.heap.size → g.own b ≠ .none) (ho : g'.own = g.own) (hb : g'.blk = g.blk) (hr : HubRep w' g') (hw : g'.Wf) : Step w g w' g' :=
  ⟨e.os, e.tape, e.output, e.size, fun b hb hn => e.same b hb (fun hs => hS b hs hb hn), fun b _ hn => by rw [ho]; exact hn, hr, hw, hb⟩
theorem Step.refl {w : World} {g : Hb} (hr : HubRep w g) (hw : g.Wf) : Step w g w g := Step.of (Ext.refl [] w) (by simp) rfl rfl hr hw
/-- Nothing of the hub's was touched. -/
theorem Step.idle {w w' : World} {g : Hb} (hr : HubRep w g) (hw : g.Wf) (e : Ext [] w w') : Step w g w' g := Step.of e (by simp) rfl rfl (hr.ext e (by simp)) hw

/-! ### Close -/

def MH.close (m : MH) (n : Int) (now : Nat) : MH :=
  if n ∈ m.conns then { m with conns := m.conns.filter (· != n), sess := m.sess.map fun s => if s.conn = some n then { s with conn := none, since := now } else s } else m

def Hb.close (g : Hb) (n : Int) (now : Nat) : Hb :=
  match g.findC n with
  | none => g
  | some c => match c.sess with
    | none => g.delC n
    | some sb => (g.delC n).setS sb fun s => { s with conn := none, since := now }

theorem mem_conns {g : Hb} {n : Int} : n ∈ g.abs.conns ↔ ∃ c, g.findC n = some c := by
  unfold Hb.abs
  simp only [List.mem_map]
  constructor
  · rintro ⟨c, hc, rfl⟩
    cases h : g.findC c.n with
    | some c' => exact ⟨c', rfl⟩
    | none => exact absurd rfl (find_none h c hc)
  · rintro ⟨c, hc⟩
    exact ⟨c, (find_mem hc).1, (find_mem hc).2⟩

theorem close_abs {w : World} {g : Hb} (hr : HubRep w g) (hw : g.Wf) (n : Int) (now : Nat) : (g.close n now).abs = g.abs.close n now := by
  unfold Hb.close MH.close
  cases hf : g.findC n with
  | none =>
    rw [if_neg]
    rw [mem_conns]
    rintro ⟨c, hc⟩
    rw [hf] at hc; cases hc
  | some c =>
    obtain ⟨hc, rfl⟩ := find_mem hf
    rw [if_pos (mem_conns.2 ⟨c, hf⟩)]
    dsimp only
    have hcn : (g.delC c.n).abs.conns = g.abs.conns.filter (· != c.n) := by
      unfold Hb.delC Hb.abs
      rw [List.filter_map]
      rfl
    have key : ∀ s ∈ g.sess, s.conn.map (·.2) = some c.n ↔ c.sess = some s.blk := by
      intro s hs
      constructor
      · intro h
        cases hx : s.conn with
        | none => rw [hx] at h; cases h
        | some p =>
          obtain ⟨cb, m⟩ := p
          rw [hx] at h
          simp only [Option.map_some, Option.some.injEq] at h
          subst h
          obtain ⟨c', hc', _, h2, h3⟩ := hw.sc s hs cb _ hx
          rw [nodup_inj hr.ndC hc hc' h2.symm]
          exact h3
      · intro h
        obtain ⟨s', hs', h1, h2⟩ := hw.cs c hc _ h
        rw [hr.sessInj hs hs' h1.symm, h2]
        rfl
    cases hs : c.sess with
    | none =>
      dsimp only
      have : g.abs.sess.map (fun s => if s.conn = some c.n then { s with conn := none, since := now } else s) = g.abs.sess := by
        unfold Hb.abs
        rw [List.map_map]
        apply List.map_congr_left
        intro s hss
        simp only [Function.comp_apply]
        have hne : ¬ s.abs.conn = some c.n := by
          show ¬ s.conn.map (·.2) = some c.n
          rw [key s hss, hs]
          simp
        rw [if_neg hne]
      rw [this, ← hcn]
      rfl
    | some sb =>
      dsimp only
      have : g.abs.sess.map (fun s => if s.conn = some c.n then { s with conn := none, since := now } else s) = ((g.delC c.n).setS sb fun s => { s with conn := none, since := now }).abs.sess := by
        unfold Hb.abs Hb.setS Hb.delC
        simp only [List.map_map]
        apply List.map_congr_left
        intro s hss
        simp only [Function.comp_apply]
        by_cases hb : s.blk = sb
        · rw [if_pos hb]
          rw [if_pos (show s.abs.conn = some c.n from (key s hss).2 (by rw [hs, hb]))]
          rfl
        · rw [if_neg hb]
          have hne : ¬ s.abs.conn = some c.n := by
            show ¬ s.conn.map (·.2) = some c.n
            rw [key s hss, hs]
            intro e
            injection e with e
            exact hb e.symm
          rw [if_neg hne]
      rw [this, ← hcn]
      rfl

theorem close_wf {w : World} {g : Hb} (hr : HubRep w g) (hw : g.Wf) (n : Int) {now : Nat} (hn : now < 4294967296) : (g.close n now).Wf := by
  unfold Hb.close
  cases hf : g.findC n with
  | none => exact hw
  | some c =>
    obtain ⟨hc, rfl⟩ := find_mem hf
    dsimp only
    have hsub : ∀ c' ∈ (g.delC c.n).conns, c' ∈ g.conns ∧ c'.n ≠ c.n := fun c' hc' => by
      have := List.mem_filter.1 hc'
      exact ⟨this.1, by simpa using this.2⟩
    have hl : (g.delC c.n).conns.length ≤ 8 := Nat.le_trans (List.length_filter_le _ _) hw.lc
    cases hs : c.sess with
    | none =>
      dsimp only
      refine ⟨fun c' hc' sb h => hw.cs c' (hsub c' hc').1 sb h, fun s hss cb m h => ?_, hl, hw.ls, hw.tok, hw.asc, hw.caps, hw.away, hw.scaps, hw.since⟩
      obtain ⟨c', h1, h2, h3, h4⟩ := hw.sc s hss cb m h
      refine ⟨c', List.mem_filter.2 ⟨h1, ?_⟩, h2, h3, h4⟩
      simp only [bne_iff_ne, ne_eq]
      intro e
      rw [nodup_inj hr.ndC h1 hc e, hs] at h4
      cases h4
    | some sb =>
      dsimp only
      have hm : ∀ s' ∈ ((g.delC c.n).setS sb fun s => { s with conn := none, since := now }).sess, ∃ s ∈ g.sess, s'.tok = s.tok ∧ s'.blk = s.blk ∧ s'.caps = s.caps ∧ ((s.blk = sb ∧ s'.conn = none ∧ s'.since = now) ∨ (s.blk ≠ sb ∧ s' = s)) := by
        intro s' hs'
        unfold Hb.setS at hs'
        simp only [List.mem_map] at hs'
        obtain ⟨s, hss, rfl⟩ := hs'
        refine ⟨s, hss, ?_⟩
        by_cases hb : s.blk = sb
        · rw [if_pos hb]; exact ⟨rfl, rfl, rfl, .inl ⟨hb, rfl, rfl⟩⟩
        · rw [if_neg hb]; exact ⟨rfl, rfl, rfl, .inr ⟨hb, rfl⟩⟩
      have htok : ((g.delC c.n).setS sb fun s => { s with conn := none, since := now }).sess.map (·.tok) = g.sess.map (·.tok) := by
        unfold Hb.setS Hb.delC
        rw [List.map_map]
        apply List.map_congr_left
        intro s _
        simp only [Function.comp_apply]
        split <;> rfl
      refine ⟨fun c' hc' sb' h => ?_, fun s' hs' cb m h => ?_, hl, by unfold Hb.setS; simp only [List.length_map]; exact hw.ls, fun s' hs' => ?_, by rw [htok]; exact hw.asc, hw.caps, hw.away, fun s' hs' => ?_, fun s' hs' => ?_⟩
      · obtain ⟨h1, h2⟩ := hsub c' hc'
        obtain ⟨s, hss, h3, h4⟩ := hw.cs c' h1 sb' h
        have hne : s.blk ≠ sb := by
          intro e
          obtain ⟨s2, hs2, h5, h6⟩ := hw.cs c hc sb hs
          rw [hr.sessInj hss hs2 (by rw [e, h5])] at h4
          rw [h4] at h6
          injection h6 with h6
          injection h6 with _ h6
          exact h2 h6
        refine ⟨s, ?_, h3, h4⟩
        unfold Hb.setS
        simp only [List.mem_map]
        exact ⟨s, hss, if_neg hne⟩
      · obtain ⟨s, hss, _, hbk, _, h2⟩ := hm s' hs'
        rcases h2 with ⟨_, h2, _⟩ | ⟨h2, rfl⟩
        · rw [h2] at h; cases h
        · obtain ⟨c', h3, h4, h5, h6⟩ := hw.sc s' hss cb m h
          refine ⟨c', List.mem_filter.2 ⟨h3, ?_⟩, h4, h5, h6⟩
          simp only [bne_iff_ne, ne_eq]
          intro e
          rw [nodup_inj hr.ndC h3 hc e, hs] at h6
          injection h6 with h6
          exact h2 h6.symm
      · obtain ⟨s, hss, h1, _, _, _⟩ := hm s' hs'
        rw [h1]; exact hw.tok s hss
      · obtain ⟨s, hss, _, _, h1, _⟩ := hm s' hs'
        rw [h1]; exact hw.scaps s hss
      · obtain ⟨s, hss, _, _, _, h2⟩ := hm s' hs'
        rcases h2 with ⟨_, _, h2⟩ | ⟨_, rfl⟩
        · rw [h2]; exact hn
        · exact hw.since _ hss

theorem setCells {s : Ss} {now : Nat} : ((s.cells.setIfInBounds 4 (.pointer none)).setIfInBounds 5 (.int .u32 now)) = ({ s with conn := none, since := now } : Ss).cells := rfl

theorem Close_spec {w : World} {g : Hb} {n : Int} {now : Nat} {Q : Cont} (hr : HubRep w g) (hw : g.Wf) (hn : now < 4294967296)
    (h : ∀ w' g', Step w g w' g' → (∀ b m, g.own b = .conn m → hp w' b = hp w b) → g'.own = g.own → g' = g.close n now → g'.abs = g.abs.close n now → Q (.bool (decide (n ∈ g.abs.conns))) w') : Ret pg n_session_Hub_Close #[pt g.blk 0, .int .i64 n, .int .u32 now] Q w := by
  apply session_Hub_Close_ok
  unfold session_Hub_Close session_Hub_Close_j0
  simp [hr.at_]
  rw [lk_map_int_p_session_conn hr.mapC, getC]
  unfold session_Hub_Close_j1
  have hca := close_abs hr hw n now
  have hcw := close_wf hr hw n hn
  unfold Hb.close at hca hcw
  cases hf : g.findC n with
  | none =>
    rw [hf] at hca hcw
    simp
    have := h w g (Step.refl hr hw) (fun _ _ _ => rfl) rfl (by unfold Hb.close; rw [hf]) hca
    rwa [decide_eq_false (by rw [mem_conns, hf]; simp)] at this
  | some c =>
    rw [hf] at hca hcw
    have hmem : n ∈ g.abs.conns := mem_conns.2 ⟨c, hf⟩
    obtain ⟨hc, rfl⟩ := find_mem hf
    simp only at hca hcw
    simp
    unfold session_Hub_Close_j2
    simp [hr.at_]
    obtain ⟨o, ho, hdel⟩ := del_map_int_p_session_conn hr.mapC c.n
    rw [hdel]
    have hr1 := hr.delC c.n ho
    have e1 : Ext [g.mc] w (put w g.mc o) := Ext.put (Ext.refl _ _) (.inl (by simp))
    have hoc := (hr.conn c hc).2
    have hne : c.blk ≠ g.mc := own_ne hoc hr.o1 (by simp)
    unfold session_Hub_Close_j3
    have hat := (hr.conn c hc).1
    cases hs : c.sess with
    | none =>
      rw [hs] at hca hcw hat
      simp [hat, hne, ptO]
      unfold session_Hub_Close_j4
      have := h _ (g.delC c.n) (Step.of e1 (by simp [hr.o1]) rfl rfl hr1 hcw) (fun b m hb => e1.same b (hr.lt b (by rw [hb]; simp)) (by simp; exact own_ne hb hr.o1 (by simp))) rfl (by unfold Hb.close; rw [hf]; simp only [hs]) hca
      rwa [decide_eq_true hmem] at this
    | some sb =>
      rw [hs] at hca hcw hat
      obtain ⟨s, hss, hsb, hsc⟩ := hw.cs c hc sb hs
      subst hsb
      have h0 := hr.sess s hss
      have hat2 := h0.at_
      unfold Ss.cells at hat2
      have hne2 : s.blk ≠ g.mc := own_ne h0.o0 hr.o1 (by simp)
      have hlt := lt_of_hp hat2
      simp [hat, hne, ptO, hat2, hne2, hlt]
      unfold session_Hub_Close_j4
      generalize hW : put (put (drw (put w g.mc o)) s.blk _) s.blk _ = W
      have hx : hp W s.blk = some (.cells ({ s with conn := none, since := now } : Ss).cells 94 (0, 0)) := by
        rw [← hW]; simp [hlt, Ss.cells, ptO]
      have e2 : Ext [s.blk, s.t.blk, s.t.map, s.win.blk] (put w g.mc o) W := by
        rw [← hW]; exact (((Ext.refl _ _).drw).put (.inl (by simp))).put (.inl (by simp))
      have e3 : Ext [s.blk] (put w g.mc o) W := by
        rw [← hW]; exact (((Ext.refl _ _).drw).put (.inl (by simp))).put (.inl (by simp))
      have hs1 := hr1.sess s hss
      have hr2 := hr1.setS (g := g.delC c.n) hss (fun s => { s with conn := none, since := now }) e2 rfl rfl
        ⟨hx, hs1.tb.ext e3 (by simp; exact own_ne hs1.o1 hs1.o0 (by simp)) (by simp; exact own_ne hs1.o2 hs1.o0 (by simp)), hs1.win.ext e3 (by simp; exact own_ne hs1.o3 hs1.o0 (by simp)), h0.o0, h0.o1, h0.o2, h0.o3⟩
      have e4 : Ext [g.mc, s.blk] w W := by
        rw [← hW]; exact ((((Ext.refl _ _).put (.inl (by simp))).drw).put (.inl (by simp))).put (.inl (by simp))
      have := h _ ((g.delC c.n).setS s.blk fun s => { s with conn := none, since := now }) (Step.of e4 (by simp [hr.o1, h0.o0]) rfl rfl hr2 hcw) (fun b m hb => e4.same b (hr.lt b (by rw [hb]; simp)) (by simp; exact ⟨own_ne hb hr.o1 (by simp), own_ne hb h0.o0 (by simp)⟩)) rfl (by unfold Hb.close; rw [hf]; simp only [hs]) hca
      rwa [decide_eq_true hmem] at this
end Go.Proofs.Ytpdcllhmbjnooaa
