/- Sessions: a session goes on, second part. -/
import Derived.Test.YtpdcllhmbjnooaaSeH
namespace Go.Proofs.Ytpdcllhmbjnooaa
open Go.Dc
set_option maxRecDepth 10000

def MS.had (s : MS) (n : Nat) : MS := { s with limit := max s.limit (min (min n (1073741824 - s.wsize) + s.wsize) 1073741824) }
def MS.ack (s : MS) (n : Nat) : MS := if s.done < n then s else { s with acked := max s.acked n, msgs := s.msgs.drop (n - s.acked) }
def MS.join (s : MS) (n : Int) : MS := { s with conn := some n }

theorem Step.upd {w w' : World} {g : Hb} (hr : HubRep w g) (hw : g.Wf) {s s' : Ss} (hs : s ∈ g.sess) (e : Ext [s.blk, s.t.blk, s.t.map, s.win.blk] w w') (h1 : SsRep w' g.own s') (ht : s'.tok = s.tok) (hb : s'.blk = s.blk) (hc : s'.conn = s.conn)
    (h2 : s'.caps < 4294967296) (h3 : s'.since < 4294967296) : Step w g w' (g.setS s.blk fun _ => s') := by
  have hs' := hr.sess s hs
  refine Step.of e ?_ rfl rfl (hr.setS hs (fun _ => s') e ht hb h1) (setS_wf hr hw hs ht hb hc h2 h3)
  intro b hb _
  simp at hb
  rcases hb with rfl | rfl | rfl | rfl
  · rw [hs'.o0]; simp
  · rw [hs'.o1]; simp
  · rw [hs'.o2]; simp
  · rw [hs'.o3]; simp

/-- A session and a connection come together. -/
theorem Step.join {w : World} {g : Hb} (hr : HubRep w g) (hw : g.Wf) {s : Ss} {c : Cn} (hs : s ∈ g.sess) (hc : c ∈ g.conns) (hcs : c.sess = none) (hsn : s.conn = none) :
    Step w g (Go.Dc.put (Go.Dc.put w s.blk (.cells ({ s with conn := some (c.blk, c.n) } : Ss).cells 94 (0, 0))) c.blk (.cells #[.int .i64 c.n, ptO (some s.blk)] 88 (0, 0))) ((g.setS s.blk fun _ => { s with conn := some (c.blk, c.n) }).setC c.blk (some s.blk)) := by
  have hs' := hr.sess s hs
  have e : Ext [s.blk] w (Go.Dc.put w s.blk (.cells ({ s with conn := some (c.blk, c.n) } : Ss).cells 94 (0, 0))) := (Ext.refl _ _).put (.inl (by simp))
  have n1 : s.t.blk ≠ s.blk := own_ne hs'.o1 hs'.o0 (by simp)
  have n2 : s.t.map ≠ s.blk := own_ne hs'.o2 hs'.o0 (by simp)
  have n3 : s.win.blk ≠ s.blk := own_ne hs'.o3 hs'.o0 (by simp)
  have h1 : SsRep (Go.Dc.put w s.blk (.cells ({ s with conn := some (c.blk, c.n) } : Ss).cells 94 (0, 0))) g.own { s with conn := some (c.blk, c.n) } :=
    ⟨by simp [lt_of_hp hs'.at_], hs'.tb.ext e (by simpa using n1) (by simpa using n2), hs'.win.ext e (by simpa using n3), hs'.o0, hs'.o1, hs'.o2, hs'.o3⟩
  have hr1 := hr.setS hs (fun _ => { s with conn := some (c.blk, c.n) }) (e.mono (by simp)) rfl rfl h1
  have hr2 := hr1.setC (c := c) hc (some s.blk)
  refine Step.of (S := [s.blk, c.blk]) ((e.mono (by simp)).put (.inl (by simp))) ?_ rfl rfl hr2 (join_wf hr hw hs hc hcs hsn rfl rfl rfl (hw.scaps s hs) (hw.since s hs))
  intro b hb _
  simp at hb
  rcases hb with rfl | rfl
  · rw [hs'.o0]; simp
  · rw [(hr.conn c hc).2]; simp

theorem MH.put_put (m : MH) (a b : MS) (h : a.tok = b.tok) : (m.put a).put b = m.put b := by
  unfold MH.put
  simp only [List.map_map]
  congr 1
  apply List.map_congr_left
  intro x _
  simp only [Function.comp_apply]
  by_cases h1 : x.tok = a.tok
  · rw [if_pos h1, if_pos h, if_pos (h1.trans h)]
  · rw [if_neg h1]

theorem resume_j5_spec {w : World} {g : Hb} {c : Cn} {s : Ss} {m : Msg} {f : MF} {xb vb tb base : Nat} {z : Array Value} {vs : Value} {l : List Int} {Q : Cont} (hr : HubRep w g) (hw : g.Wf) (hc : c ∈ g.conns) (hcs : c.sess = none) (hs : s ∈ g.sess) (hsn : s.conn = none)
    (hm : MsgF m f) (hx : hp w xb = some (.cells m 37 (0, 0))) (hv : hp w vb = some (.cells z 45 (0, 0))) (hz : z.size = 4) (ht : hp w tb = some (.cells #[.slice none 0 0, vs, .bool false, .int .u64 0] 45 (0, 0)))
    (hxo : g.own xb = .none) (hvo : g.own vb = .none) (hto : g.own tb = .none) (hvt : vb ≠ tb) (hvs : Own w g.own base vs 3 l.length (l.map (Value.int .i64)).toArray) (hsep : ∀ b, vs = .slice (some ⟨b, 0, none⟩) l.length l.length → b ≠ tb ∧ b ≠ vb) (hbase : base ≤ w.heap.size)
    (h : ∀ w4 w' g' v, Step w g w4 g' → Ext [tb, vb] w4 w' → g'.own = g.own → g'.abs = g.abs.put ((s.abs.join c.n).had f.n) → TurnRep w' g'.own base v ⟨[mKN 4 s.abs.done, mKN 9 ((s.abs.join c.n).had f.n).limit], l, false, 0⟩ → Q v w') :
    session_Hub_resume_j5 Q (pt c.blk 0) (pt xb 0) (pt vb 0) (pt s.blk 0) (pt tb 0) w := by
  unfold session_Hub_resume_j5
  have hs' := hr.sess s hs
  have hat := hs'.at_
  have hlt := lt_of_hp hat
  unfold Ss.cells at hat
  rw [hsn] at hat
  obtain ⟨hca, hco⟩ := hr.conn c hc
  rw [hcs] at hca
  have hltc := lt_of_hp hca
  have n1 : c.blk ≠ s.blk := own_ne hco hs'.o0 (by simp)
  have nx1 : xb ≠ s.blk := own_ne hxo hs'.o0 (by simp)
  have nx2 : xb ≠ c.blk := own_ne hxo hco (by simp)
  have st := Step.join hr hw hs hc hcs hsn
  simp only [ptO] at st hat hca
  simp [hat, hca, n1, Ne.symm n1, hlt, hltc, hx, nx1, nx2, hm.k5, ptO]
  rw [show ({ s with conn := some (c.blk, c.n) } : Ss).cells = #[.int .u64 s.tok, .int .u32 s.caps, pt s.t.blk 0, pt s.win.blk 0, pt c.blk 0, .int .u32 s.since] from rfl] at st
  have x1 : Ext [s.blk, c.blk] w (Go.Dc.put (Go.Dc.put w s.blk (.cells #[.int .u64 s.tok, .int .u32 s.caps, pt s.t.blk 0, pt s.win.blk 0, pt c.blk 0, .int .u32 s.since] 94 (0, 0))) c.blk (.cells #[.int .i64 c.n, pt s.blk 0] 88 (0, 0))) := ((Ext.refl _ _).put (.inl (by simp))).put (.inl (by simp))
  generalize hW1 : Go.Dc.put (Go.Dc.put w s.blk _) c.blk _ = w1 at st x1 ⊢
  let s1 : Ss := { s with conn := some (c.blk, c.n) }
  have hm1 : s1 ∈ ((g.setS s.blk fun _ => s1).setC c.blk (some s.blk)).sess := mem_setS (s' := s1) hs
  have hs1 : SsRep w1 g.own s1 := st.rep.sess s1 hm1
  refine credit_Had_spec (c := s.win) (hs1.win.ext ((Ext.refl [] _).drw) (by simp)) hm.b5 fun w2 x2 z2 hwn => ?_
  have x2' : Ext [s.win.blk] w1 w2 := ((Ext.refl _ _).drw).trans x2 (by simp)
  let s2 : Ss := { s1 with win := s.win.had f.n }
  have m1 : s1.blk ≠ s.win.blk := own_ne hs1.o0 hs1.o3 (by simp)
  have m2 : s1.t.blk ≠ s.win.blk := own_ne hs1.o1 hs1.o3 (by simp)
  have m3 : s1.t.map ≠ s.win.blk := own_ne hs1.o2 hs1.o3 (by simp)
  have hs2 : SsRep w2 g.own s2 := ⟨x2'.at hs1.at_ (by simpa using m1), hs1.tb.ext x2' (by simpa using m2) (by simpa using m3), hwn, hs1.o0, hs1.o1, hs1.o2, hs1.o3⟩
  have st2 : Step w1 _ w2 _ := Step.upd (s' := s2) st.rep st.wf hm1 (x2'.mono (by simp [s1])) hs2 rfl rfl rfl (hw.scaps s hs) (hw.since s hs)
  have st3 := st.trans st2
  have x3 : Ext [s.blk, c.blk, s.win.blk] w w2 := (x1.mono (by simp)).trans x2' (by simp)
  have hat2 : hp w2 s.blk = some (.cells #[.int .u64 s.tok, .int .u32 s.caps, pt s.t.blk 0, pt s.win.blk 0, pt c.blk 0, .int .u32 s.since] 94 (0, 0)) := hs2.at_
  have ht2 := x3.at ht (by simp; exact ⟨own_ne hto hs'.o0 (by simp), own_ne hto hco (by simp), own_ne hto hs'.o3 (by simp)⟩)
  have hv2 := x3.at hv (by simp; exact ⟨own_ne hvo hs'.o0 (by simp), own_ne hvo hco (by simp), own_ne hvo hs'.o3 (by simp)⟩)
  simp [hat2]
  refine dedup_Done_spec (t := s.t) (hs2.tb.ext ((Ext.refl [] _).drw) (by simp) (by simp)) ?_
  simp [hat2]
  refine credit_Limit_spec (c := s.win.had f.n) (hwn.ext ((Ext.refl [] _).drw) (by simp)) ?_
  simp
  rw [bs_msg2 (mKN_ok _ _).size (mKN_ok _ _).size]
  have ll := lt_of_hp ht2
  have lv := lt_of_hp hv2
  have q1 : tb ≠ w2.heap.size := by omega
  have q2 : vb ≠ w2.heap.size := by omega
  simp [q1, q2, ht2, hv2, hvt, Ne.symm hvt, ll, lv, hz, hvs.one, Nat.lt_succ_of_lt ll, Nat.lt_succ_of_lt lv]
  have habs : (((g.setS s.blk fun _ => s1).setC c.blk (some s.blk)).setS s1.blk fun _ => s2).abs = g.abs.put ((s.abs.join c.n).had f.n) := by
    rw [setS_abs (s' := s2) st.rep hm1 rfl, setC_abs, setS_abs (s' := s1) hr hs rfl, MH.put_put _ s1.abs s2.abs rfl]
    rfl
  refine h w2 _ _ _ st3 ((((Ext.refl _ _).drw.alloc).put (.inl (by simp))).put (.inl (by simp))) rfl habs ⟨⟨_, vs, rfl, .inr ⟨w2.heap.size, by have := st3.size; omega, st3.rep.fresh (Nat.le_refl _), rfl, ?_⟩, ?_⟩, ?_⟩
  · simp [q1, q2, Ne.symm q1, Ne.symm q2, flat]
    rfl
  · rcases hvs with ⟨h1, h2⟩ | ⟨b, h1, h2, rfl, h4⟩
    · exact .inl ⟨h1, h2⟩
    · refine .inr ⟨b, h1, h2, rfl, ?_⟩
      obtain ⟨e1, e2⟩ := hsep b rfl
      have hb2 : hp w2 b = some (.cells (l.map (Value.int .i64)).toArray 3 (0, 0)) := x3.at h4 (by simp; exact ⟨own_ne h2 hs'.o0 (by simp), own_ne h2 hco (by simp), own_ne h2 hs'.o3 (by simp)⟩)
      have := lt_of_hp hb2
      have e3 : b ≠ w2.heap.size := by omega
      simp [e1, e2, e3, hb2]
  · intro x hx
    simp at hx
    rcases hx with rfl | rfl
    · exact mKN_ok _ _
    · exact mKN_ok _ _

/-! ### Resume -/

theorem ack_abs (s : Ss) (n : Nat) : ({ s with t := s.t.ack n } : Ss).abs = s.abs.ack n := by
  unfold MS.ack
  by_cases h : s.t.done < n
  · have : s.t.ack n = s.t := by unfold Tb.ack Tb.ackE; rw [if_pos h]; rfl
    rw [this, if_pos (show s.abs.done < n from h)]
  · have : s.t.ack n = { s.t with acked := max s.t.acked n, msgs := s.t.msgs.drop (n - s.t.acked) } := by
      unfold Tb.ack
      rw [show s.t.ackE n = 0 from by unfold Tb.ackE; rw [if_neg h]]
      rfl
    rw [this, if_neg (show ¬ s.abs.done < n from h)]
    rfl

theorem put_self {w : World} {g : Hb} (hr : HubRep w g) {s : Ss} (hs : s ∈ g.sess) : g.abs.put s.abs = g.abs := by
  unfold MH.put Hb.abs
  simp only [List.map_map]
  congr 1
  apply List.map_congr_left
  intro x hx
  simp only [Function.comp_apply]
  by_cases h : x.abs.tok = s.abs.tok
  · rw [if_pos h, nodup_inj hr.ndS hx hs h]
  · rw [if_neg h]

theorem close_joined {w : World} {g : Hb} (hr : HubRep w g) (hw : g.Wf) {s : Ss} {cb now : Nat} {k : Int} (hs : s ∈ g.sess) (hsc : s.conn = some (cb, k)) : g.close k now = (g.delC k).setS s.blk fun s => { s with conn := none, since := now } := by
  obtain ⟨c, h1, h2, h3, h4⟩ := hw.sc s hs cb k hsc
  unfold Hb.close
  cases hf : g.findC k with
  | none => exact absurd h3 (find_none hf c h1)
  | some c' =>
    obtain ⟨h5, h6⟩ := find_mem hf
    have : c' = c := nodup_inj hr.ndC h5 h1 (h6.trans h3.symm)
    subst this
    simp only [h4]

def MH.resume (m : MH) (n : Int) (now : Nat) (f : MF) : MH × MT :=
  match m.find f.tok with
  | none => (m.close n now, shutT n 5 182)
  | some s =>
    if s.done < f.n then (m.close n now, shutT n 5 180)
    else
      let m1 := m.put (s.ack f.n)
      let s2 : MS := match s.conn with
        | some _ => { s.ack f.n with since := now }
        | none => s.ack f.n
      let s3 := (s2.join n).had f.n
      ((match s.conn with | some k => m1.close k now | none => m1).put s3, ⟨[mKN 4 s.done, mKN 9 s3.limit], s.conn.toList, false, 0⟩)

theorem resume_spec {w : World} {g : Hb} {c : Cn} {now : Nat} {m : Msg} {f : MF} {Q : Cont} (hr : HubRep w g) (hw : g.Wf) (hn : now < 4294967296) (hc : c ∈ g.conns) (hcs : c.sess = none) (hm : MsgF m f)
    (h : ∀ w' g' v, Step w g w' g' → g'.abs = (g.abs.resume c.n now f).1 → TurnRep w' g'.own w.heap.size v (g.abs.resume c.n now f).2 → Q v w') :
    Ret pg n_session_Hub_resume #[pt g.blk 0, pt c.blk 0, .int .u32 now, .agg m] Q w := by
  apply session_Hub_resume_ok
  unfold session_Hub_resume
  have hlt := lt_of_hp hr.at_
  have e1 : g.blk ≠ w.heap.size := by omega
  have e2 : g.blk ≠ w.heap.size + 1 := by omega
  have n0 : ∀ b, b ≠ 0 ∨ True := fun _ => .inr trivial
  simp
  unfold session_Hub_resume_j0
  have hr1 : HubRep ((w.alloc (.cells m 37)).alloc (.cells #[.slice none 0 0, .slice none 0 0, .bool false, .int .u64 0] 45)) g := ((hr.alloc _).alloc _)
  have x1 : Ext [] w ((w.alloc (.cells m 37)).alloc (.cells #[.slice none 0 0, .slice none 0 0, .bool false, .int .u64 0] 45)) := (((Ext.refl _ _).alloc).alloc)
  generalize hW1 : (w.alloc (.cells m 37)).alloc (.cells #[.slice none 0 0, .slice none 0 0, .bool false, .int .u64 0] 45) = w1 at *
  have hs1 : w1.heap.size = w.heap.size + 2 := by rw [← hW1]; simp
  have hv1 : hp w1 (w.heap.size + 1) = some (.cells #[.slice none 0 0, .slice none 0 0, .bool false, .int .u64 0] 45 (0, 0)) := by rw [← hW1]; simp
  have hm1 : hp w1 w.heap.size = some (.cells m 37 (0, 0)) := by rw [← hW1]; simp
  have bad : ∀ code : Nat, code < 256 → (g.abs.resume c.n now f) = (g.abs.close c.n now, shutT c.n 5 code) → ∀ w2 g2, Step w1 g w2 g2 → g2.abs = g.abs → c ∈ g2.conns → Ret pg n_session_Hub_shut #[pt g.blk 0, pt c.blk 0, .int .u32 now, .int .u8 5, .int .i64 code] (fun v10 => st 45 (pt (w.heap.size + 1) 0) v10 fun _ => (fun w' => ldq 45 (pt (w.heap.size + 1) 0) (fun v11 => Q v11 w') w')) w2 := by
    intro code hcode he w2 g2 y2 ha2 hc2
    rw [← y2.blk]
    refine shut_spec y2.rep y2.wf hn hc2 hcode fun w3 g3 v hst hab hT => ?_
    have := y2.size
    refine through (K := Q) hr x1 (y2.trans hst) (hT.base y2.size) (by omega) hv1 rfl fun w' s1 t1 => h _ _ _ s1 (by rw [he, hab, ha2]) (by rw [he]; exact t1)
  simp [hr1.at_, hm1, hm.k3]
  rw [lkq_map_uint64_p_session_session (w := drw w1) hr1.mapS, getS]
  unfold session_Hub_resume_j1
  cases hf : g.findS f.tok with
  | none =>
    simp
    exact bad 182 (by decide) (by unfold MH.resume; rw [find_abs, hf]; rfl) _ g (Step.idle hr1 hw ((Ext.refl _ _).drw)) rfl hc
  | some s =>
    obtain ⟨hs, htok⟩ := findS_mem hf
    have hs1' := hr1.sess s hs
    simp
    unfold session_Hub_resume_j2
    have hat := hs1'.at_
    unfold Ss.cells at hat
    simp [hat, hm1, hm.k5]
    refine dedup_Ack_spec (t := s.t) (hs1'.tb.ext (((Ext.refl [] w1).drw).drw) (by simp) (by simp)) hm.b5 fun w2 x2 z2 htb => ?_
    simp
    have hfa : g.abs.find f.tok = some s.abs := by rw [find_abs, hf]; rfl
    let s1 : Ss := { s with t := s.t.ack f.n }
    have tb1 : s1.t.blk = s.t.blk := by simp only [s1, Tb.ack]; split <;> rfl
    have tb2 : s1.t.map = s.t.map := by simp only [s1, Tb.ack]; split <;> rfl
    have x2' : Ext [s.t.blk, s.t.map] w1 w2 := (((Ext.refl _ _).drw).drw).trans x2 (by simp)
    have hS1 : SsRep w2 g.own s1 := by
      have a1 : s.blk ≠ s.t.blk := own_ne hs1'.o0 hs1'.o1 (by simp)
      have a2 : s.blk ≠ s.t.map := own_ne hs1'.o0 hs1'.o2 (by simp)
      have a3 : s.win.blk ≠ s.t.blk := own_ne hs1'.o3 hs1'.o1 (by simp)
      have a4 : s.win.blk ≠ s.t.map := own_ne hs1'.o3 hs1'.o2 (by simp)
      refine ⟨?_, htb, hs1'.win.ext x2' (by simp; exact ⟨a3, a4⟩), hs1'.o0, tb1.symm ▸ hs1'.o1, tb2.symm ▸ hs1'.o2, hs1'.o3⟩
      have := x2'.at hs1'.at_ (by simp; exact ⟨a1, a2⟩)
      unfold Ss.cells at this ⊢
      rw [tb1]
      exact this
    have st2 : Step w1 g w2 _ := Step.upd (s' := s1) hr1 hw hs (x2'.mono (by simp)) hS1 rfl rfl rfl (hw.scaps s hs) (hw.since s hs)
    by_cases hd : s.t.done < f.n
    · rw [show s.t.ackE f.n = 1 from by unfold Tb.ackE; rw [if_pos hd]]
      simp
      refine bad 180 (by decide) (by unfold MH.resume; rw [hfa]; exact if_pos hd) _ _ st2 ?_ hc
      have he : s1 = s := by
        simp only [s1]
        unfold Tb.ack
        rw [show s.t.ackE f.n = 1 from by unfold Tb.ackE; rw [if_pos hd]]
        rfl
      rw [setS_abs (s' := s1) hr1 hs rfl, he, put_self hr1 hs]
    rw [show s.t.ackE f.n = 0 from by unfold Tb.ackE; rw [if_neg hd]]
    simp
    unfold session_Hub_resume_j3
    simp
    unfold session_Hub_resume_j4
    have hack : s1.abs = s.abs.ack f.n := ack_abs s f.n
    have st3 := st2.trans (Step.idle st2.rep st2.wf (((Ext.refl _ _)).alloc (o := .cells #[.slice none 0 0, .slice none 0 0, .bool false, .int .u64 0] 45)))
    have hs12 := st2.size
    have ht3 : hp (w2.alloc (.cells #[.slice none 0 0, .slice none 0 0, .bool false, .int .u64 0] 45)) w2.heap.size = some (.cells #[.slice none 0 0, .slice none 0 0, .bool false, .int .u64 0] 45 (0, 0)) := by simp
    have hto : g.own w2.heap.size = .none := st2.rep.fresh (Nat.le_refl _)
    have hs3 : (w2.alloc (.cells #[.slice none 0 0, .slice none 0 0, .bool false, .int .u64 0] 45)).heap.size = w2.heap.size + 1 := by simp
    generalize hW3 : w2.alloc _ = w3 at *
    have hxo : g.own w.heap.size = .none := hr.fresh (Nat.le_refl _)
    have hvo : g.own (w.heap.size + 1) = .none := hr.fresh (by omega)
    have hx3 : hp w3 w.heap.size = some (.cells m 37 (0, 0)) := by rw [st3.same _ (by omega) hxo]; exact hm1
    have hv3 : hp w3 (w.heap.size + 1) = some (.cells #[.slice none 0 0, .slice none 0 0, .bool false, .int .u64 0] 45 (0, 0)) := by rw [st3.same _ (by omega) hvo]; exact hv1
    have hm3 : s1 ∈ (g.setS s.blk fun _ => s1).sess := mem_setS hs
    have hS3 := st3.rep.sess s1 hm3
    have hat3 : hp w3 s.blk = some (.cells s1.cells 94 (0, 0)) := hS3.at_
    unfold Ss.cells at hat3
    have hres : g.abs.resume c.n now f = (let m1 := g.abs.put (s.abs.ack f.n)
      let s2 : MS := match s.abs.conn with
        | some _ => { s.abs.ack f.n with since := now }
        | none => s.abs.ack f.n
      let s3 := (s2.join c.n).had f.n
      ((match s.abs.conn with | some k => m1.close k now | none => m1).put s3, ⟨[mKN 4 s.abs.done, mKN 9 s3.limit], s.abs.conn.toList, false, 0⟩)) := by
      unfold MH.resume
      rw [hfa]
      exact if_neg hd
    rw [hres] at h
    have hconn : s.abs.conn = s.conn.map (·.2) := rfl
    rw [hconn] at h
    have hdone : s1.abs.done = s.abs.done := Tb.ack_done s.t f.n
    cases hsc : s.conn with
    | none =>
      have hsc1 : s1.conn = none := hsc
      rw [hsc] at h
      rw [hsc1] at hat3
      simp [hat3, ptO]
      refine resume_j5_spec (g := g.setS s.blk fun _ => s1) (s := s1) (z := #[.slice none 0 0, .slice none 0 0, .bool false, .int .u64 0]) (base := w.heap.size) (vs := .slice none 0 0) (l := []) st3.rep st3.wf hc hcs hm3 hsc1 hm hx3 hv3 rfl ht3 hxo hvo hto (by omega) (.inl ⟨rfl, rfl⟩) (by simp) (by omega) ?_
      intro w4 w5 g' v st4 x5 hown' habs' hT
      refine h w5 g' v (Step.around x1 (st3.trans st4) x5 ?_) ?_ ?_
      · intro b hb
        rw [hown']
        simp at hb
        rcases hb with rfl | rfl
        · exact ⟨by omega, hto⟩
        · exact ⟨by omega, hvo⟩
      · rw [habs', setS_abs (s' := s1) hr1 hs rfl, hack]
        rfl
      · rw [hdone] at hT
        rw [hack] at hT
        exact hT
    | some p =>
      obtain ⟨cb, k⟩ := p
      have hsc1 : s1.conn = some (cb, k) := hsc
      rw [hsc] at h
      rw [hsc1] at hat3
      obtain ⟨c', k1, k2, k3, k4⟩ := hw.sc s hs cb k hsc
      obtain ⟨hca, hco⟩ := st3.rep.conn c' k1
      rw [k2, k3, k4] at hca
      have hco' : g.own cb = .conn k := by rw [← k2, ← k3]; exact hco
      have hne : c.n ≠ k := by
        intro e
        rw [nodup_inj hr.ndC hc k1 (e.trans k3.symm), k4] at hcs
        cases hcs
      have lc := lt_of_hp hca
      have l3 := lt_of_hp ht3
      have c1 : cb ≠ w2.heap.size := fun e => by rw [e, hto] at hco'; cases hco'
      have sb1 : s.blk ≠ w2.heap.size := fun e => by rw [← e, hs1'.o0] at hto; cases hto
      have sb2 : s.blk < w3.heap.size := lt_of_hp hat3
      have sb3 : s.blk ≠ w3.heap.size := by omega
      have q1 : cb ≠ w3.heap.size := by omega
      have q2 : w2.heap.size ≠ w3.heap.size := by omega
      have q3 : w2.heap.size < w3.heap.size + 1 := by omega
      simp [hat3, ptO, hca, ht3, c1, sb1, sb3, q1, q2, q3]
      have st5 : Step w1 g (Go.Dc.put (w3.alloc (.cells #[.int .i64 k] 3)) w2.heap.size (.cells #[.slice none 0 0, .slice (some ⟨w3.heap.size, 0, none⟩) 1 1, .bool false, .int .u64 0] 45 (0, 0))) _ :=
        Step.around (S := [w2.heap.size]) (Ext.refl [] w1) st3 (((Ext.refl _ _).alloc).put (.inl (by simp))) (by simp; exact ⟨by omega, hto⟩)
      have ht5 : hp (Go.Dc.put (w3.alloc (.cells #[.int .i64 k] 3)) w2.heap.size (.cells #[.slice none 0 0, .slice (some ⟨w3.heap.size, 0, none⟩) 1 1, .bool false, .int .u64 0] 45 (0, 0))) w2.heap.size = some (.cells #[.slice none 0 0, .slice (some ⟨w3.heap.size, 0, none⟩) 1 1, .bool false, .int .u64 0] 45 (0, 0)) := by simp [q3]
      have hk5 : hp (Go.Dc.put (w3.alloc (.cells #[.int .i64 k] 3)) w2.heap.size (.cells #[.slice none 0 0, .slice (some ⟨w3.heap.size, 0, none⟩) 1 1, .bool false, .int .u64 0] 45 (0, 0))) w3.heap.size = some (.cells #[.int .i64 k] 3 (0, 0)) := by simp [Ne.symm q2]
      have hs5 : (Go.Dc.put (w3.alloc (.cells #[.int .i64 k] 3)) w2.heap.size (.cells #[.slice none 0 0, .slice (some ⟨w3.heap.size, 0, none⟩) 1 1, .bool false, .int .u64 0] 45 (0, 0))).heap.size = w3.heap.size + 1 := by simp
      generalize hW5 : Go.Dc.put (w3.alloc _) w2.heap.size _ = w5 at *
      have hto5 : g.own w3.heap.size = .none := st3.rep.fresh (Nat.le_refl _)
      rw [← show (g.setS s.blk fun _ => s1).blk = g.blk from rfl]
      refine Close_spec st5.rep st5.wf hn fun w6 g6 st6 _ how6 hg6 hab6 => ?_
      rw [close_joined st5.rep st5.wf hm3 hsc1] at hg6
      have hc6 : c ∈ g6.conns := by
        rw [hg6]
        exact List.mem_filter.2 ⟨hc, by simpa using hne⟩
      have hs6 : ({ s1 with conn := none, since := now } : Ss) ∈ g6.sess := by
        rw [hg6]
        unfold Hb.setS
        simp only [List.mem_map]
        exact ⟨s1, hm3, if_pos rfl⟩
      have hown6 : g6.own = g.own := how6
      have st7 := st5.trans st6
      have hx6 : hp w6 w.heap.size = some (.cells m 37 (0, 0)) := by rw [st7.same _ (by omega) hxo]; exact hm1
      have hv6 : hp w6 (w.heap.size + 1) = some (.cells #[.slice none 0 0, .slice none 0 0, .bool false, .int .u64 0] 45 (0, 0)) := by rw [st7.same _ (by omega) hvo]; exact hv1
      have ht6 : hp w6 w2.heap.size = some (.cells #[.slice none 0 0, .slice (some ⟨w3.heap.size, 0, none⟩) 1 1, .bool false, .int .u64 0] 45 (0, 0)) := by rw [st6.same _ (by omega) hto]; exact ht5
      have hk6 : hp w6 w3.heap.size = some (.cells #[.int .i64 k] 3 (0, 0)) := by rw [st6.same _ (by omega) hto5]; exact hk5
      have hs56 := st6.size
      refine resume_j5_spec (g := g6) (s := { s1 with conn := none, since := now }) (z := #[.slice none 0 0, .slice none 0 0, .bool false, .int .u64 0]) (base := w.heap.size) (vs := .slice (some ⟨w3.heap.size, 0, none⟩) 1 1) (l := [k]) st6.rep st6.wf hc6 hcs hs6 rfl hm hx6 hv6 rfl ht6
        (by rw [hown6]; exact hxo) (by rw [hown6]; exact hvo) (by rw [hown6]; exact hto) (by omega) (.inr ⟨w3.heap.size, by omega, by rw [hown6]; exact hto5, rfl, hk6⟩) (by intro b hb; simp at hb; subst hb; exact ⟨Ne.symm q2, by omega⟩) (by omega) ?_
      intro w8 w9 g' v st8 x8 hown' habs' hT
      refine h w9 g' v (Step.around x1 (st7.trans st8) x8 ?_) ?_ ?_
      · intro b hb
        rw [hown', hown6]
        simp at hb
        rcases hb with rfl | rfl
        · exact ⟨by omega, hto⟩
        · exact ⟨by omega, hvo⟩
      · rw [habs', hab6, setS_abs (s' := s1) hr1 hs rfl, hack]
        rw [show ({ s1 with conn := none, since := now } : Ss).abs.join c.n = ({ s.abs.ack f.n with since := now } : MS).join c.n from by rw [← hack]; rfl]
        rfl
      · rw [show ({ s1 with conn := none, since := now } : Ss).abs.join c.n = ({ s.abs.ack f.n with since := now } : MS).join c.n from by rw [← hack]; rfl] at hT
        rw [show ({ s1 with conn := none, since := now } : Ss).abs.done = s.abs.done from hdone] at hT
        exact hT
end Go.Proofs.Ytpdcllhmbjnooaa
