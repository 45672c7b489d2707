/- Sessions: a request of a session. -/
import Derived.Test.YtpdcllhmbjnooaaSeI
namespace Go.Proofs.Ytpdcllhmbjnooaa
open Go.Dc
set_option maxRecDepth 10000

/-- A turn goes through the variable of the result. -/
theorem through' {w0 w2 : World} {g g2 : Hb} {vb base : Nat} {v : Value} {t : MT} {K : Cont} {c : Array Value} (hst : Step w0 g w2 g2) (hT : TurnRep w2 g2.own base v t) (hb : w0.heap.size ≤ base) (h1 : w0.heap.size ≤ vb) (h2 : vb < base) (hvo : g2.own vb = .none) (hv : hp w2 vb = some (.cells c 45 (0, 0))) (hc : c.size = 4)
    (h : ∀ w', Step w0 g w' g2 → TurnRep w' g2.own w0.heap.size v t → K v w') : st 45 (pt vb 0) v (fun _ => (fun w' => ldq 45 (pt vb 0) (fun x => K x w') w')) w2 := by
  obtain ⟨vo, vs, rfl, h3, h4⟩ := hT.at_
  have hlt := lt_of_hp hv
  simp [hv, hc, h3.one, h4.one, hlt]
  have e : Ext [vb] w2 (put w2 vb (.cells #[vo, vs, .bool t.do_, .int .u64 t.tok] 45 (0, 0))) := Ext.put (Ext.refl _ _) (.inl (by simp))
  refine h _ (Step.around (S := [vb]) (Ext.refl _ _) hst e (by simp; exact ⟨h1, hvo⟩)) ((hT.ext e (by simp; omega)).base hb)

def MS.tb (s : MS) : Tb := ⟨0, 0, s.acked, s.msgs⟩
def MS.ask (s : MS) (r : Nat) : Msg × Nat := s.tb.ask r
def MS.keep (s : MS) (r : Nat) (m : Msg) : MS := { s with msgs := (s.tb.keep r m).msgs }

def MH.request (m : MH) (n : Int) (now : Nat) (f : MF) (s : MS) : MH × MT :=
  if ¬ (0 < f.req ∧ f.req ≤ s.limit) then (m.close n now, shutT n 6 170)
  else if (s.ask f.req).2 = 2 then (m, ⟨[(s.ask f.req).1], [], false, 0⟩)
  else if (s.ask f.req).2 = 3 then (m, ⟨[mAns f.req 160], [], false, 0⟩)
  else if (s.ask f.req).2 = 4 then (m.close n now, shutT n 6 180)
  else if s.lacks f.kind then (m.put (s.keep f.req (mAns f.req 181)), ⟨[mAns f.req 181], [], false, 0⟩)
  else (m, ⟨[], [], true, s.tok⟩)

theorem keep_abs (s : Ss) (r : Nat) (m : Msg) : ({ s with t := s.t.keep r m } : Ss).abs = s.abs.keep r m := by
  unfold MS.keep MS.tb
  have e1 : (Tb.mk 0 0 s.abs.acked s.abs.msgs).keepE r = s.t.keepE r := rfl
  unfold Tb.keep
  rw [e1]
  by_cases h : s.t.keepE r = 0
  · rw [if_pos h, if_pos h]; rfl
  · rw [if_neg h, if_neg h]

theorem keep_step {w w' : World} {g : Hb} (hr : HubRep w g) (hw : g.Wf) {s : Ss} (hs : s ∈ g.sess) {r : Nat} {m : Msg} (e : Ext [s.t.blk, s.t.map] w w') (ht : TbRep w' (s.t.keep r m)) : Step w g w' (g.setS s.blk fun _ => { s with t := s.t.keep r m }) := by
  have hs' := hr.sess s hs
  have tb1 : (s.t.keep r m).blk = s.t.blk := by simp only [Tb.keep]; split <;> rfl
  have tb2 : (s.t.keep r m).map = s.t.map := by simp only [Tb.keep]; split <;> rfl
  have a1 : s.blk ≠ s.t.blk := own_ne hs'.o0 hs'.o1 (by simp)
  have a2 : s.blk ≠ s.t.map := own_ne hs'.o0 hs'.o2 (by simp)
  have a3 : s.win.blk ≠ s.t.blk := own_ne hs'.o3 hs'.o1 (by simp)
  have a4 : s.win.blk ≠ s.t.map := own_ne hs'.o3 hs'.o2 (by simp)
  refine Step.upd (s' := { s with t := s.t.keep r m }) hr hw hs (e.mono (by simp)) ⟨?_, ht, hs'.win.ext e (by simp; exact ⟨a3, a4⟩), hs'.o0, tb1.symm ▸ hs'.o1, tb2.symm ▸ hs'.o2, hs'.o3⟩ rfl rfl rfl (hw.scaps s hs) (hw.since s hs)
  have := e.at hs'.at_ (by simp; exact ⟨a1, a2⟩)
  unfold Ss.cells at this ⊢
  rw [tb1]
  exact this
theorem ack_step {w w' : World} {g : Hb} (hr : HubRep w g) (hw : g.Wf) {s : Ss} (hs : s ∈ g.sess) {n : Nat} (e : Ext [s.t.blk, s.t.map] w w') (ht : TbRep w' (s.t.ack n)) : Step w g w' (g.setS s.blk fun _ => { s with t := s.t.ack n }) := by
  have hs' := hr.sess s hs
  have tb1 : (s.t.ack n).blk = s.t.blk := by simp only [Tb.ack]; split <;> rfl
  have tb2 : (s.t.ack n).map = s.t.map := by simp only [Tb.ack]; split <;> rfl
  have a1 : s.blk ≠ s.t.blk := own_ne hs'.o0 hs'.o1 (by simp)
  have a2 : s.blk ≠ s.t.map := own_ne hs'.o0 hs'.o2 (by simp)
  have a3 : s.win.blk ≠ s.t.blk := own_ne hs'.o3 hs'.o1 (by simp)
  have a4 : s.win.blk ≠ s.t.map := own_ne hs'.o3 hs'.o2 (by simp)
  refine Step.upd (s' := { s with t := s.t.ack n }) hr hw hs (e.mono (by simp)) ⟨?_, ht, hs'.win.ext e (by simp; exact ⟨a3, a4⟩), hs'.o0, tb1.symm ▸ hs'.o1, tb2.symm ▸ hs'.o2, hs'.o3⟩ rfl rfl rfl (hw.scaps s hs) (hw.since s hs)
  have := e.at hs'.at_ (by simp; exact ⟨a1, a2⟩)
  unfold Ss.cells at this ⊢
  rw [tb1]
  exact this

theorem TurnRep.msg1 {w : World} {own : Nat → Tag} {m : Msg} (hm : MsgOk m) (ho : own w.heap.size = .none) : TurnRep (w.alloc (.cells m 37)) own w.heap.size (.agg #[.slice (some ⟨w.heap.size, 0, none⟩) 1 1, .slice none 0 0, .bool false, .int .u64 0]) ⟨[m], [], false, 0⟩ :=
  ⟨⟨_, _, rfl, .inr ⟨w.heap.size, Nat.le_refl _, ho, rfl, by simp [flat]⟩, .inl ⟨rfl, rfl⟩⟩, by intro x hx; simp at hx; subst hx; exact hm⟩
theorem Step.alloc {w0 w : World} {g0 g : Hb} (h : Step w0 g0 w g) (o : Obj) : Step w0 g0 (w.alloc o) g := h.trans (Step.idle h.rep h.wf ((Ext.refl _ _).alloc))
theorem Step.drw {w0 w : World} {g0 g : Hb} (h : Step w0 g0 w g) : Step w0 g0 (Go.Dc.drw w) g := h.trans (Step.idle h.rep h.wf ((Ext.refl _ _).drw))

theorem request_j3_spec {w0 w : World} {g : Hb} {c : Cn} {s : Ss} {now : Nat} {m a : Msg} {f : MF} {xb vb ab code : Nat} {z : Array Value} {Q : Cont} (hst : Step w0 g w g) (hn : now < 4294967296) (hc : c ∈ g.conns) (hs : s ∈ g.sess)
    (hm : MsgF m f) (hx : hp w xb = some (.cells m 37 (0, 0))) (hv : hp w vb = some (.cells z 45 (0, 0))) (hz : z.size = 4) (ha : hp w ab = some (.cells a 37 (0, 0))) (hok : MsgOk a)
    (b2 : w0.heap.size ≤ vb) (b3 : w0.heap.size ≤ ab) (hvo : g.own vb = .none) (hao : g.own ab = .none) (d2 : xb ≠ ab) (d3 : vb ≠ ab)
    (h2 : code = 2 → ∀ w' v, Step w0 g w' g → TurnRep w' g.own w0.heap.size v ⟨[a], [], false, 0⟩ → Q v w')
    (h3 : code = 3 → ∀ w' v, Step w0 g w' g → TurnRep w' g.own w0.heap.size v ⟨[mAns f.req 160], [], false, 0⟩ → Q v w')
    (h4 : code = 4 → ∀ w' g' v, Step w0 g w' g' → g'.abs = g.abs.close c.n now → TurnRep w' g'.own w0.heap.size v (shutT c.n 6 180) → Q v w')
    (h5 : code ≠ 2 → code ≠ 3 → code ≠ 4 → s.abs.lacks f.kind = true → ∀ w' g' v, Step w0 g w' g' → g'.abs = g.abs.put (s.abs.keep f.req (mAns f.req 181)) → TurnRep w' g'.own w0.heap.size v ⟨[mAns f.req 181], [], false, 0⟩ → Q v w')
    (h6 : code ≠ 2 → code ≠ 3 → code ≠ 4 → s.abs.lacks f.kind = false → ∀ w' v, Step w0 g w' g → TurnRep w' g.own w0.heap.size v ⟨[], [], true, s.tok⟩ → Q v w') :
    session_Hub_request_j3 Q (pt g.blk 0) (pt c.blk 0) (.int .u32 now) (pt xb 0) (pt vb 0) (pt s.blk 0) (pt ab 0) (.int .u8 code) w := by
  unfold session_Hub_request_j3
  have hs' := hst.rep.sess s hs
  have lx := lt_of_hp hx
  have lv := lt_of_hp hv
  have la := lt_of_hp ha
  have hsz := hst.size
  simp
  by_cases c2 : code = 2
  · rw [ifB_pos (by simp; omega)]
    rw [ld_msg _ _ _ ha hok.size, bs_msg1 hok.size]
    simp [-st_api_Turn]
    exact through' (hst.alloc _) (TurnRep.msg1 hok (hst.rep.fresh (Nat.le_refl _))) hsz b2 lv hvo (c := z) (by rw [hp_alloc, if_neg (by omega)]; exact hv) hz (h2 c2 · _)
  rw [ifB_neg (by simp; omega)]
  simp
  by_cases c3 : code = 3
  · rw [ifB_pos (by simp; omega)]
    simp [hx, hm.k1]
    rw [bs_msg1 (mAns_ok _ _).size]
    simp [-st_api_Turn]
    exact through' (hst.alloc _) (TurnRep.msg1 (mAns_ok _ _) (hst.rep.fresh (Nat.le_refl _))) hsz b2 lv hvo (c := z) (by rw [hp_alloc, if_neg (by omega)]; exact hv) hz (h3 c3 · _)
  rw [ifB_neg (by simp; omega)]
  simp
  by_cases c4 : code = 4
  · rw [ifB_pos (by simp; omega)]
    refine shut_spec hst.rep hst.wf hn hc (by decide) fun w2 g2 v st2 hab hT => ?_
    refine through' (hst.trans st2) hT hsz b2 lv (st2.own _ lv hvo) (c := z) (by rw [st2.same _ lv hvo]; exact hv) hz fun w' k1 k2 => h4 c4 w' g2 v k1 hab k2
  rw [ifB_neg (by simp; omega)]
  simp [hx, hm.k0]
  refine lacks_spec hs' (hst.wf.scaps s hs) ?_
  cases hl : s.abs.lacks f.kind with
  | false =>
    simp
    have hat := hs'.at_
    unfold Ss.cells at hat
    simp [hat, -st_api_Turn]
    exact through' (t := ⟨[], [], true, s.tok⟩) (base := w.heap.size) hst ⟨⟨_, _, rfl, .inl ⟨rfl, rfl⟩, .inl ⟨rfl, rfl⟩⟩, by simp⟩ hsz b2 lv hvo (c := z) hv hz (h6 c2 c3 c4 hl · _)
  | true =>
    simp [hx, hm.k1, -st_api_Message]
    rw [st_msg _ (mAns_ok _ _) _ _ ha hok.size]
    have st1 : Step w0 g (put w ab (.cells (mAns f.req 181) 37 (0, 0))) g := Step.around (S := [ab]) (Ext.refl _ _) hst (Ext.put (Ext.refl _ _) (.inl (by simp))) (by simp; exact ⟨b3, hao⟩)
    have hx1 : hp (put w ab (.cells (mAns f.req 181) 37 (0, 0))) xb = some (.cells m 37 (0, 0)) := by rw [hp_put, if_neg d2]; exact hx
    have hv1 : hp (put w ab (.cells (mAns f.req 181) 37 (0, 0))) vb = some (.cells z 45 (0, 0)) := by rw [hp_put, if_neg d3]; exact hv
    have ha1 : hp (put w ab (.cells (mAns f.req 181) 37 (0, 0))) ab = some (.cells (mAns f.req 181) 37 (0, 0)) := by rw [hp_put, if_pos rfl, if_pos la]
    generalize hW1 : put w ab _ = w1 at *
    have hs1 := st1.rep.sess s hs
    have hat := hs1.at_
    unfold Ss.cells at hat
    have hb := st1.size
    simp [hat, hx1, hm.k1, ha1, rowOf_whole _ _ _ _ (mAns_ok _ _).size]
    have r1 : f.req < 4294967296 := hm.b1
    refine dedup_Keep_spec (t := s.t) (hs1.tb.ext ((Ext.refl [] w1).drw) (by simp) (by simp)) r1 (mAns_ok _ _) fun w2 x2 ht => ?_
    have st2 := keep_step st1.rep st1.wf hs (((Ext.refl _ _).drw).trans x2 (by simp)) ht
    have ha2 : hp w2 ab = some (.cells (mAns f.req 181) 37 (0, 0)) := by rw [st2.same _ (lt_of_hp ha1) hao]; exact ha1
    have hv2 : hp w2 vb = some (.cells z 45 (0, 0)) := by rw [st2.same _ (lt_of_hp hv1) hvo]; exact hv1
    rw [ld_msg _ _ _ ha2 (mAns_ok _ _).size, bs_msg1 (mAns_ok _ _).size]
    simp [-st_api_Turn]
    have st3 := st1.trans st2
    have lv2 := lt_of_hp hv2
    have hab := setS_abs (s' := { s with t := s.t.keep f.req (mAns f.req 181) }) hst.rep hs rfl
    rw [keep_abs] at hab
    exact through' (st3.alloc _) (TurnRep.msg1 (mAns_ok _ _) (st3.rep.fresh (Nat.le_refl _))) st3.size b2 lv2 hvo (c := z) (by rw [hp_alloc, if_neg (by omega)]; exact hv2) hz (fun w' k1 k2 => h5 c2 c3 c4 hl w' _ _ k1 hab k2)

theorem request_spec {w : World} {g : Hb} {c : Cn} {s : Ss} {now : Nat} {m : Msg} {f : MF} {Q : Cont} (hr : HubRep w g) (hw : g.Wf) (hn : now < 4294967296) (hc : c ∈ g.conns) (hs : s ∈ g.sess) (hcs : c.sess = some s.blk) (hm : MsgF m f)
    (h : ∀ w' g' v, Step w g w' g' → g'.abs = (g.abs.request c.n now f s.abs).1 → TurnRep w' g'.own w.heap.size v (g.abs.request c.n now f s.abs).2 → Q v w') :
    Ret pg n_session_Hub_request #[pt g.blk 0, pt c.blk 0, .int .u32 now, .agg m] Q w := by
  apply session_Hub_request_ok
  unfold session_Hub_request
  simp
  unfold session_Hub_request_j0
  have hr1 : HubRep ((w.alloc (.cells m 37)).alloc (.cells #[.slice none 0 0, .slice none 0 0, .bool false, .int .u64 0] 45)) g := ((hr.alloc _).alloc _)
  have x1 : Ext [] w ((w.alloc (.cells m 37)).alloc (.cells #[.slice none 0 0, .slice none 0 0, .bool false, .int .u64 0] 45)) := (((Ext.refl _ _).alloc).alloc)
  generalize hW1 : (w.alloc (.cells m 37)).alloc (.cells #[.slice none 0 0, .slice none 0 0, .bool false, .int .u64 0] 45) = w1 at *
  have hs1 : w1.heap.size = w.heap.size + 2 := by rw [← hW1]; simp
  have hv1 : hp w1 (w.heap.size + 1) = some (.cells #[.slice none 0 0, .slice none 0 0, .bool false, .int .u64 0] 45 (0, 0)) := by rw [← hW1]; simp
  have hm1 : hp w1 w.heap.size = some (.cells m 37 (0, 0)) := by rw [← hW1]; simp
  have st1 : Step w g w1 g := Step.idle hr hw x1
  have hxo : g.own w.heap.size = .none := hr.fresh (Nat.le_refl _)
  have hvo : g.own (w.heap.size + 1) = .none := hr.fresh (by omega)
  obtain ⟨hca, hco⟩ := hr1.conn c hc
  rw [hcs] at hca
  have hS := hr1.sess s hs
  have hat := hS.at_
  unfold Ss.cells at hat
  simp [hca, ptO]
  unfold session_Hub_request_j1
  simp [hat, hm1, hm.k1]
  refine credit_May_spec (hS.win.ext (((Ext.refl [] w1).drw)) (by simp)) ?_
  simp
  have hlim : s.abs.limit = s.win.limit := rfl
  by_cases hmay : 0 < f.req ∧ f.req ≤ s.win.limit
  · rw [ifB_neg (by simp; omega)]
    have fin : ∀ w2 ab, Step w1 g w2 g → hp w2 ab = some (.cells (s.abs.ask f.req).1 37 (0, 0)) → w1.heap.size ≤ ab → g.own ab = .none →
        session_Hub_request_j3 Q (pt g.blk 0) (pt c.blk 0) (.int .u32 now) (pt w.heap.size 0) (pt (w.heap.size + 1) 0) (pt s.blk 0) (pt ab 0) (.int .u8 ((s.abs.ask f.req).2 : Nat)) w2 := by
      intro w2 ab st2 ha hab hao
      have hx2 : hp w2 w.heap.size = some (.cells m 37 (0, 0)) := by rw [st2.same _ (by omega) hxo]; exact hm1
      have hv2 : hp w2 (w.heap.size + 1) = some (.cells #[.slice none 0 0, .slice none 0 0, .bool false, .int .u64 0] 45 (0, 0)) := by rw [st2.same _ (by omega) hvo]; exact hv1
      have he : g.abs.request c.n now f s.abs = (if (s.abs.ask f.req).2 = 2 then (g.abs, ⟨[(s.abs.ask f.req).1], [], false, 0⟩)
          else if (s.abs.ask f.req).2 = 3 then (g.abs, ⟨[mAns f.req 160], [], false, 0⟩)
          else if (s.abs.ask f.req).2 = 4 then (g.abs.close c.n now, shutT c.n 6 180)
          else if s.abs.lacks f.kind then (g.abs.put (s.abs.keep f.req (mAns f.req 181)), ⟨[mAns f.req 181], [], false, 0⟩)
          else (g.abs, ⟨[], [], true, s.abs.tok⟩)) := by
        unfold MH.request
        rw [if_neg (fun k => k hmay)]
      rw [he] at h
      refine request_j3_spec (st1.trans st2) hn hc hs hm hx2 hv2 rfl ha (Tb.ask_ok (t := s.t) hS.tb f.req) (by omega) (by omega) hvo hao (by omega) (by omega) ?_ ?_ ?_ ?_ ?_
      · intro k w' v k1 k2
        rw [if_pos k] at h
        exact h w' g v k1 rfl k2
      · intro k w' v k1 k2
        rw [if_neg (by omega), if_pos k] at h
        exact h w' g v k1 rfl k2
      · intro k w' g' v k1 k3 k2
        rw [if_neg (by omega), if_neg (by omega), if_pos k] at h
        exact h w' g' v k1 k3 k2
      · intro n2 n3 n4 k w' g' v k1 k3 k2
        rw [if_neg n2, if_neg n3, if_neg n4, if_pos k] at h
        exact h w' g' v k1 k3 k2
      · intro n2 n3 n4 k w' v k1 k2
        rw [if_neg n2, if_neg n3, if_neg n4, if_neg (by rw [k]; simp)] at h
        exact h w' g v k1 rfl k2
    unfold session_Hub_request_j2
    have ls := lt_of_hp hat
    have d1 : s.blk ≠ w1.heap.size := by omega
    have d2 : w.heap.size ≠ w1.heap.size := by omega
    simp [hat, hm1, hm.k1, al_msg, -al_api_Message, d1, d2]
    have sd : Step w1 g w1 g := Step.refl hr1 hw
    have r1 : f.req < 4294967296 := hm.b1
    have ok := Tb.ask_ok (t := s.t) hS.tb f.req
    have hfree : ∀ b, w1.heap.size ≤ b → g.own b = .none := fun b hb => hr1.fresh hb
    refine ⟨dedup_Ask_spec (hS.tb.ext (((Ext.refl [] w1).drw).drw) (by simp) (by simp)) r1 fun w2 x2 => ?_, dedup_Ask_spec (hS.tb.ext ((((Ext.refl [] w1).drw).drw).alloc) (by simp) (by simp)) r1 fun w2 x2 => ?_⟩
    · have s2 := x2.size
      simp at s2
      simp [al_msg, -al_api_Message, -st_api_Message]
      rw [st_msg _ ok _ _ (c := zMsg) (T := 37) (by simp) rfl]
      refine fin _ _ ?_ (by simp; rfl) (by omega) (hfree _ (by omega))
      exact ((sd.drw.drw).trans (Step.idle sd.drw.drw.rep hw (x2.alloc.put (.inr (by simp; omega)))))
    · have s2 := x2.size
      simp at s2
      have hz2 : hp w2 w1.heap.size = some (.cells zMsg 37 (0, 0)) := x2.at (by simp) (by simp)
      simp [-st_api_Message]
      rw [st_msg _ ok _ _ hz2 rfl]
      refine fin _ _ ?_ (by rw [hp_put, if_pos rfl, if_pos (lt_of_hp hz2)]; rfl) (by omega) (hfree _ (by omega))
      exact Step.around (S := [w1.heap.size]) (Ext.refl _ _) ((sd.drw.drw.alloc _).trans (Step.idle (sd.drw.drw.alloc _).rep hw x2)) (Ext.put (Ext.refl _ _) (.inl (by simp))) (by simp; exact hfree _ (Nat.le_refl _))
  · rw [ifB_pos (by simp; omega)]
    refine shut_spec hr1.drw hw hn hc (by decide) fun w2 g2 v st2 hab hT => ?_
    have he : g.abs.request c.n now f s.abs = (g.abs.close c.n now, shutT c.n 6 170) := by unfold MH.request; exact if_pos hmay
    rw [he] at h
    have l1 : w.heap.size + 1 < (drw w1).heap.size := by simp; omega
    exact through' (st1.drw.trans st2) hT (by simp; omega) (by omega) l1 (st2.own _ l1 hvo) (by rw [st2.same _ l1 hvo]; exact hv1) rfl fun w' k1 k2 => h w' g2 v k1 hab k2
end Go.Proofs.Ytpdcllhmbjnooaa
