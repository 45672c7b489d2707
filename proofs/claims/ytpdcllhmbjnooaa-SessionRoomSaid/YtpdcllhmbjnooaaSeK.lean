/- Sessions: a message comes. -/
import Derived.Test.YtpdcllhmbjnooaaSeJ
namespace Go.Proofs.Ytpdcllhmbjnooaa
open Go.Dc
set_option maxRecDepth 10000

def MT.none : MT := ⟨[], [], false, 0⟩
/-- The session on a connection. -/
def MH.on (m : MH) (n : Int) : Option MS := m.sess.find? (fun s => s.conn == some n)

def MH.in_ (m : MH) (n : Int) (now : Nat) (f : MF) : MH × MT × Nat :=
  if n ∉ m.conns then (m, MT.none, 2)
  else if f.kind = 6 then (m.close n now, ⟨[], [n], false, 0⟩, 0)
  else match m.on n with
    | none =>
      if f.kind = 1 then ((m.hello n now f).1, (m.hello n now f).2, 0)
      else if f.kind = 3 then ((m.resume n now f).1, (m.resume n now f).2, 0)
      else (m.close n now, shutT n 6 180, 0)
    | some s =>
      if f.kind = 7 then (m, ⟨[mKN 8 f.n], [], false, 0⟩, 0)
      else if f.kind = 8 then (m, MT.none, 0)
      else if f.kind = 10 ∧ f.n ≤ s.done then
        (m.put ((s.ack f.n).had f.n), if s.limit < ((s.ack f.n).had f.n).limit then ⟨[mKN 9 ((s.ack f.n).had f.n).limit], [], false, 0⟩ else MT.none, 0)
      else if 11 ≤ f.kind ∧ f.kind ≤ 23 then ((m.request n now f s).1, (m.request n now f s).2, 0)
      else (m.close n now, shutT n 6 180, 0)

theorem on_none {w : World} {g : Hb} (hr : HubRep w g) (hw : g.Wf) {c : Cn} (hc : c ∈ g.conns) (hcs : c.sess = none) : g.abs.on c.n = none := by
  unfold MH.on
  rw [List.find?_eq_none]
  intro x hx
  unfold Hb.abs at hx
  simp only [List.mem_map] at hx
  obtain ⟨s, hs, rfl⟩ := hx
  simp only [beq_iff_eq]
  intro e
  have e' : s.conn.map (·.2) = some c.n := e
  cases hsc : s.conn with
  | none => rw [hsc] at e'; cases e'
  | some p =>
    obtain ⟨cb, k⟩ := p
    rw [hsc] at e'
    simp at e'
    subst e'
    obtain ⟨c', h1, h2, h3, h4⟩ := hw.sc s hs cb _ hsc
    rw [nodup_inj hr.ndC hc h1 h3.symm, h4] at hcs
    cases hcs

theorem on_some {w : World} {g : Hb} (hr : HubRep w g) (hw : g.Wf) {c : Cn} {s : Ss} (hc : c ∈ g.conns) (hs : s ∈ g.sess) (hcs : c.sess = some s.blk) : g.abs.on c.n = some s.abs := by
  have key : ∀ x ∈ g.sess, x.abs.conn = some c.n → x = s := by
    intro x hx e
    have e' : x.conn.map (·.2) = some c.n := e
    cases hsc : x.conn with
    | none => rw [hsc] at e'; cases e'
    | some p =>
      obtain ⟨cb, k⟩ := p
      rw [hsc] at e'
      simp at e'
      subst e'
      obtain ⟨c', h1, h2, h3, h4⟩ := hw.sc x hx cb _ hsc
      rw [nodup_inj hr.ndC h1 hc h3, hcs] at h4
      injection h4 with h4
      exact hr.sessInj hx hs h4.symm
  have hsc : s.abs.conn = some c.n := by
    obtain ⟨s', h1, h2, h3⟩ := hw.cs c hc _ hcs
    rw [hr.sessInj h1 hs h2] at h3
    show s.conn.map (·.2) = _
    rw [h3]; rfl
  unfold MH.on Hb.abs
  simp only
  cases hf : (g.sess.map Ss.abs).find? (fun s => s.conn == some c.n) with
  | none =>
    rw [List.find?_eq_none] at hf
    exact absurd hsc (by simpa using hf _ (List.mem_map.2 ⟨s, hs, rfl⟩))
  | some y =>
    have h1 := List.mem_of_find?_eq_some hf
    have h2 := List.find?_some hf
    simp only [beq_iff_eq] at h2
    obtain ⟨x, hx, rfl⟩ := List.mem_map.1 h1
    rw [key x hx h2]

theorem emptyT (w : World) (own : Nat → Tag) (base : Nat) : TurnRep w own base (.agg #[.slice none 0 0, .slice none 0 0, .bool false, .int .u64 0]) MT.none := ⟨⟨_, _, rfl, .inl ⟨rfl, rfl⟩, .inl ⟨rfl, rfl⟩⟩, by simp [MT.none]⟩

theorem In_spec {w : World} {g : Hb} {n : Int} {now : Nat} {m : Msg} {f : MF} {Q : Cont} (hr : HubRep w g) (hw : g.Wf) (hn : now < 4294967296) (hm : MsgF m f) (hl : g.last + 1 < 18446744073709551616)
    (h : ∀ w' g' v, Step w g w' g' → g'.abs = (g.abs.in_ n now f).1 → TurnRep w' g'.own w.heap.size v (g.abs.in_ n now f).2.1 → Q (.tuple #[v, .int .i64 ((g.abs.in_ n now f).2.2 : Nat)]) w') :
    Ret pg n_session_Hub_In #[pt g.blk 0, .int .i64 n, .int .u32 now, .agg m] Q w := by
  apply session_Hub_In_ok
  unfold session_Hub_In
  simp
  unfold session_Hub_In_j0
  have hr1 : HubRep ((w.alloc (.cells m 37)).alloc (.cells #[.slice none 0 0, .slice none 0 0, .bool false, .int .u64 0] 45)) g := ((hr.alloc _).alloc _)
  have x1 : Ext [] w ((w.alloc (.cells m 37)).alloc (.cells #[.slice none 0 0, .slice none 0 0, .bool false, .int .u64 0] 45)) := (((Ext.refl _ _).alloc).alloc)
  generalize hW1 : (w.alloc (.cells m 37)).alloc (.cells #[.slice none 0 0, .slice none 0 0, .bool false, .int .u64 0] 45) = w1 at *
  have hs1 : w1.heap.size = w.heap.size + 2 := by rw [← hW1]; simp
  have hv1 : hp w1 (w.heap.size + 1) = some (.cells #[.slice none 0 0, .slice none 0 0, .bool false, .int .u64 0] 45 (0, 0)) := by rw [← hW1]; simp
  have hm1 : hp w1 w.heap.size = some (.cells m 37 (0, 0)) := by rw [← hW1]; simp
  have st1 : Step w g w1 g := Step.idle hr hw x1
  have hxo : g.own w.heap.size = .none := hr.fresh (Nat.le_refl _)
  have hvo : g.own (w.heap.size + 1) = .none := hr.fresh (by omega)
  have lv : w.heap.size + 1 < w1.heap.size := by omega
  /- every turn leaves so -/
  have out : ∀ (e : Nat) (w2 : World) (g2 : Hb) (v : Value) (t : MT), Step w1 g w2 g2 → TurnRep w2 g2.own w1.heap.size v t → g.abs.in_ n now f = (g2.abs, t, e) →
      st 45 (pt (w.heap.size + 1) 0) v (fun _ => (fun w' => ldq 45 (pt (w.heap.size + 1) 0) (fun x => Q (.tuple #[x, .int .i64 e]) w') w')) w2 := by
    intro e w2 g2 v t st2 hT he
    rw [he] at h
    refine through' (st1.trans st2) hT (by omega) (by omega) lv (st2.own _ lv hvo) (by rw [st2.same _ lv hvo]; exact hv1) rfl fun w' k1 k2 => h w' g2 v k1 rfl k2
  simp [hr1.at_]
  rw [lk_map_int_p_session_conn hr1.mapC, getC]
  unfold session_Hub_In_j1
  cases hf : g.findC n with
  | none =>
    simp
    unfold session_Hub_In_j3
    simp [-st_api_Turn]
    refine out 2 w1 g _ MT.none (Step.refl hr1 hw) (emptyT _ _ _) ?_
    unfold MH.in_
    rw [if_pos (by rw [mem_conns, hf]; simp)]
  | some c =>
    obtain ⟨hc, rfl⟩ := find_mem hf
    obtain ⟨hca, hco⟩ := hr1.conn c hc
    simp
    unfold session_Hub_In_j3
    simp
    unfold session_Hub_In_c0
    simp [hm1, hm.k0]
    unfold session_Hub_In_j4
    simp
    have hin : g.abs.in_ c.n now f = (if f.kind = 6 then (g.abs.close c.n now, ⟨[], [c.n], false, 0⟩, 0)
      else match g.abs.on c.n with
        | none =>
          if f.kind = 1 then ((g.abs.hello c.n now f).1, (g.abs.hello c.n now f).2, 0)
          else if f.kind = 3 then ((g.abs.resume c.n now f).1, (g.abs.resume c.n now f).2, 0)
          else (g.abs.close c.n now, shutT c.n 6 180, 0)
        | some s =>
          if f.kind = 7 then (g.abs, ⟨[mKN 8 f.n], [], false, 0⟩, 0)
          else if f.kind = 8 then (g.abs, MT.none, 0)
          else if f.kind = 10 ∧ f.n ≤ s.done then
            (g.abs.put ((s.ack f.n).had f.n), if s.limit < ((s.ack f.n).had f.n).limit then ⟨[mKN 9 ((s.ack f.n).had f.n).limit], [], false, 0⟩ else MT.none, 0)
          else if 11 ≤ f.kind ∧ f.kind ≤ 23 then ((g.abs.request c.n now f s).1, (g.abs.request c.n now f s).2, 0)
          else (g.abs.close c.n now, shutT c.n 6 180, 0)) := by
      unfold MH.in_
      rw [if_neg (not_not_intro (mem_conns.2 ⟨c, hf⟩))]
    by_cases h6 : f.kind = 6
    · rw [ifB_pos (by simp; omega)]
      refine Close_spec hr1 hw hn fun w2 g2 st2 _ _ _ hab => ?_
      have s2 := st2.size
      simp [-st_api_Turn]
      refine out 0 (w2.alloc (.cells #[.int .i64 c.n] 3)) g2 _ ⟨[], [c.n], false, 0⟩ (st2.alloc _) ⟨⟨_, _, rfl, .inl ⟨rfl, rfl⟩, .inr ⟨w2.heap.size, s2, st2.rep.fresh (Nat.le_refl _), rfl, by simp⟩⟩, by simp⟩ ?_
      rw [hin, if_pos h6, hab]
    rw [ifB_neg (by simp; omega)]
    rw [if_neg h6] at hin
    unfold session_Hub_In_c1
    have shut : ∀ w2 g2, Step w1 g w2 g2 → g2.abs = g.abs → c.n ∈ g2.abs.conns → (∃ c2 ∈ g2.conns, c2.blk = c.blk ∧ c2.n = c.n) → g.abs.in_ c.n now f = (g.abs.close c.n now, shutT c.n 6 180, 0) →
        Ret pg n_session_Hub_shut #[pt g.blk 0, pt c.blk 0, .int .u32 now, .int .u8 6, .int .i64 180] (fun v16 => st 45 (pt (w.heap.size + 1) 0) v16 (fun _ => (fun w' => ldq 45 (pt (w.heap.size + 1) 0) (fun x => Q (.tuple #[x, .int .i64 0]) w') w'))) w2 := by
      rintro w2 g2 st2 ha2 _ ⟨c2, hc2, hb2, hn2⟩ he
      rw [← hb2, ← st2.blk]
      refine shut_spec st2.rep st2.wf hn hc2 (by decide) fun w3 g3 v st3 hab hT => ?_
      rw [hn2, ha2] at hab
      rw [hn2] at hT
      exact out 0 w3 g3 v _ (st2.trans st3) (hT.base st2.size) (by rw [he, hab])
    cases hcs : c.sess with
    | none =>
      rw [hcs] at hca
      rw [on_none hr1 hw hc hcs] at hin
      simp only at hin
      simp [hca, ptO, hm1, hm.k0]
      unfold session_Hub_In_j5
      simp
      by_cases h1 : f.kind = 1
      · rw [ifB_pos (by simp; omega)]
        rw [ld_msg _ _ _ hm1 hm.ok.size]
        refine hello_spec hr1 hw hn hc hcs hm hl fun w2 g2 v st2 hab hT => ?_
        exact out 0 w2 g2 v _ st2 hT (by rw [hin, if_pos h1, hab])
      rw [ifB_neg (by simp; omega)]
      rw [if_neg h1] at hin
      unfold session_Hub_In_c2
      simp [hca, ptO, hm1, hm.k0]
      unfold session_Hub_In_j6
      simp
      by_cases h3 : f.kind = 3
      · rw [ifB_pos (by simp; omega)]
        rw [ld_msg _ _ _ hm1 hm.ok.size]
        refine resume_spec hr1 hw hn hc hcs hm fun w2 g2 v st2 hab hT => ?_
        exact out 0 w2 g2 v _ st2 hT (by rw [hin, if_pos h3, hab])
      rw [ifB_neg (by simp; omega)]
      rw [if_neg h3] at hin
      unfold session_Hub_In_c3
      simp [hca, ptO]
      unfold session_Hub_In_j7
      simp
      exact shut w1 g (Step.refl hr1 hw) rfl (mem_conns.2 ⟨c, hf⟩) ⟨c, hc, rfl, rfl⟩ hin
    | some sb =>
      obtain ⟨s, hs, rfl, hsc⟩ := hw.cs c hc _ hcs
      rw [hcs] at hca
      rw [on_some hr1 hw hc hs hcs] at hin
      simp only at hin
      have hS := hr1.sess s hs
      have hat := hS.at_
      unfold Ss.cells at hat
      simp [hca, ptO, hm1, hm.k0]
      unfold session_Hub_In_j5
      simp
      unfold session_Hub_In_c2
      simp [hca, ptO, hm1, hm.k0]
      unfold session_Hub_In_j6
      simp
      unfold session_Hub_In_c3
      simp [hca, ptO]
      unfold session_Hub_In_j7
      simp
      unfold session_Hub_In_c4
      simp [hm1, hm.k0]
      unfold session_Hub_In_j8
      simp
      by_cases h7 : f.kind = 7
      · rw [ifB_pos (by simp; omega)]
        simp [hm1, hm.k5]
        rw [bs_msg1 (mKN_ok _ _).size]
        simp [-st_api_Turn]
        exact out 0 _ g _ _ ((Step.refl hr1 hw).alloc _) (TurnRep.msg1 (mKN_ok _ _) (hr1.fresh (Nat.le_refl _))) (by rw [hin, if_pos h7])
      rw [ifB_neg (by simp; omega)]
      rw [if_neg h7] at hin
      unfold session_Hub_In_c5
      simp [hm1, hm.k0]
      unfold session_Hub_In_j9
      simp
      by_cases h8 : f.kind = 8
      · rw [ifB_pos (by simp; omega)]
        simp [-st_api_Turn]
        exact out 0 w1 g _ MT.none (Step.refl hr1 hw) (emptyT _ _ _) (by rw [hin, if_pos h8])
      rw [ifB_neg (by simp; omega)]
      rw [if_neg h8] at hin
      unfold session_Hub_In_c6
      simp [hm1, hm.k0]
      by_cases h10 : f.kind = 10
      · rw [ifB_pos (by simp; omega)]
        simp [hca, ptO, hat, hm1, hm.k5]
        refine dedup_Ack_spec (t := s.t) (hS.tb.ext (((Ext.refl [] w1).drw)) (by simp) (by simp)) hm.b5 fun w2 x2 z2 htb => ?_
        have st2 := ack_step hr1 hw hs (n := f.n) (((Ext.refl _ _).drw).trans x2 (by simp)) htb
        have hm2 : hp w2 w.heap.size = some (.cells m 37 (0, 0)) := by rw [st2.same _ (by omega) hxo]; exact hm1
        have ha2 := setS_abs (s' := { s with t := s.t.ack f.n }) hr1 hs rfl
        simp
        unfold session_Hub_In_j10
        by_cases hd : s.t.done < f.n
        · rw [show s.t.ackE f.n = 1 from by unfold Tb.ackE; rw [if_pos hd]]
          rw [if_neg (by rintro ⟨_, k⟩; exact absurd hd (by have : s.abs.done = s.t.done := rfl; omega)), if_neg (by omega)] at hin
          simp
          unfold session_Hub_In_c7
          simp [hm2, hm.k0]
          rw [ifB_neg (by simp; omega)]
          unfold session_Hub_In_j11
          simp
          unfold session_Hub_In_j2
          refine shut w2 _ st2 ?_ ?_ ⟨c, hc, rfl, rfl⟩ hin
          · rw [ha2, ack_abs, show s.abs.ack f.n = s.abs from if_pos hd, put_self hr1 hs]
          · exact mem_conns.2 ⟨c, hf⟩
        · rw [show s.t.ackE f.n = 0 from by unfold Tb.ackE; rw [if_neg hd]]
          rw [if_pos ⟨h10, by have : s.abs.done = s.t.done := rfl; omega⟩] at hin
          let s1 : Ss := { s with t := s.t.ack f.n }
          have hs1m : s1 ∈ (g.setS s.blk fun _ => s1).sess := mem_setS hs
          have hS1 := st2.rep.sess s1 hs1m
          have hat1 : hp w2 s.blk = some (.cells s1.cells 94 (0, 0)) := hS1.at_
          unfold Ss.cells at hat1
          obtain ⟨hca2, _⟩ := st2.rep.conn c hc
          rw [hcs] at hca2
          simp [hca2, ptO, hat1, hm2, hm.k5]
          refine credit_Had_spec (c := s1.win) (hS1.win.ext ((Ext.refl [] _).drw) (by simp)) hm.b5 fun w3 x3 z3 hwn => ?_
          have x3' : Ext [s1.win.blk] w2 w3 := ((Ext.refl _ _).drw).trans x3 (by simp)
          let s2 : Ss := { s1 with win := s1.win.had f.n }
          have m1 : s1.blk ≠ s1.win.blk := own_ne hS1.o0 hS1.o3 (by simp)
          have m2 : s1.t.blk ≠ s1.win.blk := own_ne hS1.o1 hS1.o3 (by simp)
          have m3 : s1.t.map ≠ s1.win.blk := own_ne hS1.o2 hS1.o3 (by simp)
          have hS2 : SsRep w3 g.own s2 := ⟨x3'.at hS1.at_ (by simpa using m1), hS1.tb.ext x3' (by simpa using m2) (by simpa using m3), hwn, hS1.o0, hS1.o1, hS1.o2, hS1.o3⟩
          have st3 : Step w2 _ w3 _ := Step.upd (s' := s2) st2.rep st2.wf hs1m (x3'.mono (by simp)) hS2 rfl rfl rfl (hw.scaps s hs) (hw.since s hs)
          have st4 := st2.trans st3
          have habs : ((g.setS s.blk fun _ => s1).setS s1.blk fun _ => s2).abs = g.abs.put ((s.abs.ack f.n).had f.n) := by
            rw [setS_abs (s' := s2) st2.rep hs1m rfl, ha2, MH.put_put _ s1.abs s2.abs rfl, ← ack_abs]
            rfl
          have hlim : ((s.abs.ack f.n).had f.n).limit = (s1.win.had f.n).limit := by rw [← ack_abs]; rfl
          have hl0 : s.abs.limit = s1.win.limit := rfl
          rw [hlim, hl0, ← habs] at hin
          simp only [iteW_bool]
          by_cases hlt : s1.win.limit < (s1.win.had f.n).limit
          · rw [ifB_pos (by simpa using hlt)]
            rw [if_pos hlt] at hin
            obtain ⟨hca3, _⟩ := st3.rep.conn c hc
            rw [hcs] at hca3
            have hat3 : hp w3 s.blk = some (.cells s2.cells 94 (0, 0)) := hS2.at_
            unfold Ss.cells at hat3
            simp [hca3, ptO, hat3]
            refine credit_Limit_spec (c := s2.win) hS2.win ?_
            simp
            rw [bs_msg1 (mKN_ok _ _).size]
            simp [-st_api_Turn]
            exact out 0 _ _ _ _ (st4.alloc _) ((TurnRep.msg1 (mKN_ok _ _) (st4.rep.fresh (Nat.le_refl _))).base st4.size) hin
          · rw [ifB_neg (by simpa using hlt)]
            rw [if_neg hlt] at hin
            simp [-st_api_Turn]
            exact out 0 w3 _ _ MT.none st4 (emptyT _ _ _) hin
      rw [ifB_neg (by simp; omega)]
      rw [if_neg (by omega)] at hin
      unfold session_Hub_In_j10
      simp
      unfold session_Hub_In_c7
      simp [hm1, hm.k0]
      unfold session_Hub_In_j11
      simp
      by_cases hk : 11 ≤ f.kind ∧ f.kind ≤ 23
      · rw [ifB_pos (by simp; omega)]
        simp [hm1, hm.k0, -ld_api_Message]
        rw [ifB_pos (by simp; omega)]
        rw [if_pos hk] at hin
        rw [ld_msg _ _ _ (by rw [hp_drw]; exact hm1) hm.ok.size]
        refine request_spec hr1.drw hw hn hc hs hcs hm fun w2 g2 v st2 hab hT => ?_
        exact out 0 w2 g2 v _ ((Step.refl hr1 hw).drw.trans st2) hT (by rw [hin, hab])
      · rw [if_neg hk] at hin
        unfold session_Hub_In_j2
        have fin := shut (drw w1) g ((Step.refl hr1 hw).drw) rfl (mem_conns.2 ⟨c, hf⟩) ⟨c, hc, rfl, rfl⟩ hin
        by_cases h11 : 11 ≤ f.kind
        · rw [ifB_pos (by simp; omega)]
          simp [hm1, hm.k0, -ld_api_Message]
          rw [ifB_neg (by simp; omega)]
          exact fin
        · rw [ifB_neg (by simp; omega)]
          simp
          exact fin
end Go.Proofs.Ytpdcllhmbjnooaa
