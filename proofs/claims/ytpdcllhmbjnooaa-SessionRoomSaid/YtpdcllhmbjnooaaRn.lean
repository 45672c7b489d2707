/- An op on both hubs: a message. -/
import Derived.Test.YtpdcllhmbjnooaaRm
namespace Go.Proofs.Ytpdcllhmbjnooaa
open Go.Dc
set_option maxRecDepth 10000

/-- A message in a variable. -/
structure XV (w : World) (x : Bo) (xb : Nat) (m : Msg) : Prop where
  at_ : hp w xb = some (.cells m 37 (0, 0))
  fr : x.free xb
theorem XV.step {w w' : World} {x x' : Bo} {b : Nat} {m : Msg} (h : XV w x b m) (st : BStep w x w' x') : XV w' x' b m :=
  ⟨by rw [st.same b (lt_of_hp h.at_) h.fr]; exact h.at_, st.keep b (lt_of_hp h.at_) h.fr⟩

theorem TV.ld {w : World} {x : Bo} {vb : Nat} {v : Value} {t : MT} (h : TV w x vb v t) (k : Cont) : ld 45 (pt vb 0) k w = k v w := by
  obtain ⟨c, rfl, h2, h3⟩ := h.cs
  rw [ld_api_Turn, h3, rowOf_whole _ _ _ _ h2, optK_some]
theorem TV.cells {w : World} {x : Bo} {vb : Nat} {v : Value} {t : MT} (h : TV w x vb v t) : ∃ vo vs, hp w vb = some (.cells #[vo, vs, .bool t.do_, .int .u64 t.tok] 45 (0, 0)) := by
  obtain ⟨c, h1, h2, h3⟩ := h.cs
  obtain ⟨vo, vs, h4, _⟩ := h.tb.at_
  rw [h1] at h4
  injection h4 with h4
  exact ⟨vo, vs, by rw [h3, h4]⟩

abbrev zT : Array Value := #[.slice none 0 0, .slice none 0 0, .bool false, .int .u64 0]

theorem st_msgw {b : Nat} {m : Msg} {K : Cont} {w w' : World} {c : Array Value} {T : TypeId} (h : MsgOk m) (hb : hp w b = some (.cells c T (0, 0))) (hc : c.size = 28) (hw : w' = put w b (.cells m T (0, 0))) (hk : K undef w') : st 37 (pt b 0) (.agg m) K w := by
  rw [st_msg _ h _ _ hb hc, ← hw]
  exact hk
theorem plMsgF (a : Nat) (r num : Nat) (ha : a < 256) (hr : r < 4294967296) : MsgF (pl a r 0 0 0 0 num) ⟨a, r, 0, 0, 0⟩ := ⟨pl_ok _ _ _ _ _ _ _, rfl, rfl, rfl, rfl, rfl, ha, hr, by simp, by simp, by simp⟩

/-- One more pair was done. -/
def Bo.add (x : Bo) (v : Value) (a b : Int) : Bo := { x with vd := v, dn := x.dn + 1, ds := x.ds ++ [.int .u64 a, .int .u64 b] }
theorem BP.add {w w2 w3 : World} {x : Bo} {v : Value} {a b : Int} (h : BP w x) (e : Ext (ob x.vd) w w2) (hv : Vec w2 0 120 2 v (x.dn + 1) (x.ds ++ [.int .u64 a, .int .u64 b])) (hob : ob v = ob x.vd ∨ ob v = [w.heap.size])
    (hw : w3 = put w2 x.blk (.cells #[pt x.gh.blk 0, pt x.gr.blk 0, .int .u32 x.now, v] 72 (0, 0))) : BP w3 (x.add v a b) ∧ BStep w x w3 (x.add v a b) := by
  have hlt := lt_of_hp h.at_
  have e3 : Ext (ob x.vd ++ [x.blk]) w w3 := by rw [hw]; exact (e.mono fun b hb => List.mem_append_left _ hb).put (.inl (by simp))
  have hS : ∀ b ∈ ob x.vd ++ [x.blk], x.gh.own b = .none ∧ x.gr.own b = .none := by
    intro b hb
    rcases List.mem_append.1 hb with hb | hb
    · exact ⟨(h.fr b hb).1, (h.fr b hb).2.1⟩
    · simp at hb; rw [hb]; exact ⟨h.bh, h.br⟩
  have hf : ∀ b ∈ ob v, x.gh.own b = .none ∧ x.gr.own b = .none ∧ b ≠ x.blk := by
    intro b hb
    rcases hob with e1 | e1
    · rw [e1] at hb; exact h.fr b hb
    · rw [e1] at hb; simp at hb; rw [hb]; exact ⟨h.hub.fresh (Nat.le_refl _), h.rr.fresh (Nat.le_refl _), by omega⟩
  have hlt2 : x.blk < w2.heap.size := Nat.lt_of_lt_of_le hlt e.size
  refine ⟨⟨h.hub.ext e3 fun b hb => (hS b hb).1, h.wf, h.rr.ext e3 fun b hb => (hS b hb).2, h.sep, by rw [hw]; simp [Bo.add, hlt2], h.bh, h.br, ?_, hf⟩, ⟨e3.os, e3.tape, e3.output, e3.size, fun b hb hfr => e3.same b hb fun hs => ?_, fun b hb hfr => ⟨hfr.1, hfr.2.1, hfr.2.2.1, fun hm => ?_⟩, rfl⟩⟩
  · have x3 : Ext [x.blk] w2 w3 := by rw [hw]; exact Ext.put (Ext.refl _ _) (.inl (by simp))
    exact hv.ext x3 fun b hb hs => by simp at hs; exact (hf b hb).2.2 hs
  · rcases List.mem_append.1 hs with hs | hs
    · exact hfr.2.2.2 hs
    · simp at hs; exact hfr.2.2.1 hs
  · have hm' : b ∈ ob v := hm
    rcases hob with e1 | e1
    · rw [e1] at hm'; exact hfr.2.2.2 hm'
    · rw [e1] at hm'; simp at hm'; omega

theorem Do_j11_spec {w : World} {x : Bo} {xb tb k num : Nat} {m : Msg} {f : MF} {v : Value} {t : MT} {c : Bool} {Q : Cont} (hi : BI w x (k + 1)) (hk : k ≤ 1000) (hx : XV w x xb m) (hm : MsgF m f) (c21 : m[21]? = some (.int .u32 num)) (hn : num < 4294967296) (ht : TV w x tb v t)
    (h : ∀ w' x', BI w' x' (k + 2) → BStep w x w' x' → Q (.bool true) w') : lodestarlaw18_Both_Do_j11 Q (pt x.blk 0) (pt xb 0) (pt tb 0) (.bool c) w := by
  unfold lodestarlaw18_Both_Do_j11
  simp
  cases c with
  | false =>
    simp
    unfold lodestarlaw18_Both_Do_j10
    exact h w x { hi with lim := hi.lim.mono (by omega), dn := by have := hi.dn; omega } (BStep.refl _ _)
  | true =>
    have hat := hi.bp.at_
    have hxa := hx.at_
    obtain ⟨vo, vs, hta⟩ := ht.cells
    have hb1 := hm.b1
    have hlx := lt_of_hp hat
    have w1a : IntKind.wrap .u64 (f.req : Int) = (f.req : Int) := wrap_u64 _ (by omega) (by omega)
    simp [hat, hxa, hta, hm.k1, w1a, Nat.ne_of_lt hlx]
    obtain ⟨w1, hw1⟩ : ∃ w1, w1 = (drw w).alloc (.cells #[.int .u64 t.tok, .int .u64 f.req] 120) := ⟨_, rfl⟩
    rw [← hw1]
    have x1 : Ext [] w w1 := by rw [hw1]; exact ((Ext.refl _ _).drw).alloc
    have hn1 : hp w1 w.heap.size = some (.cells #[.int .u64 t.tok, .int .u64 f.req] 120 (0, 0)) := by rw [hw1]; simp
    clear hw1
    have hi1 := hi.ext x1 (by simp)
    have hdn := hi.dn
    refine append_spec (base := 0) (t := 70) (e := 120) (z := .agg #[.int .u64 0, .int .u64 0]) (sz := 2) (bytes := 16) (by kernel_rfl) (by kernel_rfl) rfl (by decide) hi1.bp.vd (g := w.heap.size) (m := 1) (cs := #[.int .u64 t.tok, .int .u64 f.req]) hn1 (by rfl) (by simp)
      (by unfold maxLen; omega) (by omega) (Nat.zero_le _) fun v' w2 x2 hv2 _ hob => ?_
    have hat1 := hi1.bp.at_
    have hlx1 := lt_of_hp hat1
    have hat2 : hp w2 x.blk = some (.cells #[pt x.gh.blk 0, pt x.gr.blk 0, .int .u32 x.now, x.vd] 72 (0, 0)) := x2.at hat1 fun hb => (hi1.bp.fr _ hb).2.2 rfl
    have hvone : v'.oneCell' = true := by obtain ⟨a, c, rfl⟩ := hv2.len; rfl
    rw [ncq_pt, faq_lodestarlaw18_Both_Done]
    obtain ⟨w3, hw3⟩ : ∃ w3, w3 = put w2 x.blk (.cells #[pt x.gh.blk 0, pt x.gr.blk 0, .int .u32 x.now, v'] 72 (0, 0)) := ⟨_, rfl⟩
    refine st_at (w' := w3) (by kernel_rfl) hvone hat2 (by simp) hw3 ?_
    obtain ⟨p3, s3⟩ := hi1.bp.add (a := t.tok) (b := f.req) x2 (by simpa using hv2) hob hw3
    clear hw3
    have s03 := (BStep.idle x x1).trans s3
    have hx3 := hx.step s03
    have ht3 := ht.step s03
    have hi3 : BI w3 (x.add v' t.tok f.req) (k + 2) := ⟨p3, hi.sim, hi.z, hi.lim.mono (by omega), by show x.dn + 1 ≤ k + 2; omega, hi.now⟩
    obtain ⟨vo3, vs3, hta3⟩ := ht3.cells
    have hxa3 := hx3.at_
    have hat3 := hi3.bp.at_
    have m14 : m[21]? = some (.int .u32 num) := c21
    simp [hxa3, hm.k1, m14, -st_api_Message]
    obtain ⟨w4, hw4⟩ : ∃ w4, w4 = put (w3.alloc (.cells zMsg 37)) w3.heap.size (.cells (pl 24 f.req 0 0 0 0 num) 37 (0, 0)) := ⟨_, rfl⟩
    refine st_msgw (w' := w4) (c := zMsg) (T := 37) (pl_ok 24 f.req 0 0 0 0 num) (by simp; rfl) rfl hw4 ?_
    have x4 : Ext [] w3 w4 := by rw [hw4]; exact ((Ext.refl _ _).alloc).put (.inr (Nat.le_refl _))
    have ha4 : hp w4 w3.heap.size = some (.cells (pl 24 f.req 0 0 0 0 num) 37 (0, 0)) := by rw [hw4]; simp
    clear hw4
    have hi4 := hi3.ext x4 (by simp)
    have s04 := s03.trans (BStep.idle _ x4)
    have hx4 := hx.step s04
    have ht4 := ht.step s04
    obtain ⟨vo4, vs4, hta4⟩ := ht4.cells
    have hat4 : hp w4 x.blk = some (.cells #[pt x.gh.blk 0, pt x.gr.blk 0, .int .u32 x.now, v'] 72 (0, 0)) := hi4.bp.at_
    have hra4 : rowOf (hp w4 w3.heap.size) 0 28 = some (.agg (pl 24 f.req 0 0 0 0 num)) := by rw [ha4]; exact rowOf_whole _ _ _ _ rfl
    have hmf : MsgF (pl 24 f.req 0 0 0 0 num) ⟨24, f.req, 0, 0, 0⟩ := plMsgF 24 f.req num (by decide) hb1
    have hat4d : hp (drw w4) x.blk = some (.cells #[pt x.gh.blk 0, pt x.gr.blk 0, .int .u32 x.now, v'] 72 (0, 0)) := hat4
    simp [hat4, hta4, hra4]
    have xd : Ext [] w4 (drw w4) := (Ext.refl _ _).drw
    have hi5 := hi4.ext xd (by simp)
    have s05 := s04.trans (BStep.idle _ xd)
    refine Told_spec (tok := t.tok) hi5.bp.hub hi5.bp.wf hmf fun w6 g6 st6 ha6 => ?_
    obtain ⟨p6, s6⟩ := hi5.bp.hstep st6
    have hat6 : hp w6 x.blk = some (.cells #[pt g6.blk 0, pt x.gr.blk 0, .int .u32 x.now, v'] 72 (0, 0)) := p6.at_
    have hblk6 : g6.blk = x.gh.blk := st6.blk
    have s06 := s05.trans s6
    obtain ⟨vo6, vs6, hta6⟩ := (ht.step s06).cells
    have ha66 : hp w6 w3.heap.size = some (.cells (pl 24 f.req 0 0 0 0 num) 37 (0, 0)) := by
      rw [s6.same _ (lt_of_hp ha4) (BP.lt p3 (Nat.le_refl _))]; exact ha4
    have hra6 : rowOf (hp w6 w3.heap.size) 0 28 = some (.agg (pl 24 f.req 0 0 0 0 num)) := by rw [ha66]; exact rowOf_whole _ _ _ _ rfl
    simp [hat6, hta6, hra6]
    refine RTold_spec (tok := t.tok) p6.rr hi5.r8 hmf (hi5.rlen (by omega)) fun w7 g7 st7 ha7 => ?_
    have hsim : x.gr.abs = x.gh.abs := hi.sim
    have hlimx : (x.add v' t.tok f.req).gh.abs.Lim (k + 1) := hi.lim
    obtain ⟨hi7, s7⟩ := hi5.both (l := k + 2) st6 st7 (by rw [ha6, ha7]; rw [hsim]) (by rw [ha6]; exact told_lim hlimx ⟨_, _, _, _, _, _, _, rfl⟩) (Nat.le_refl _)
    rw [hsim]
    simp
    exact h w7 _ hi7 (s05.trans s7)

theorem Do_j8_spec {w : World} {x : Bo} {b xb tb ub k kind num ahead e : Nat} {conn : Int} {m0 m : Msg} {f0 f : MF} {tell : Bool} {o : Array Value} {v u : Value} {t : MT} {Q : Cont} (hi : BI w x (k + 1)) (hk : k ≤ 1000) (ho : OpF o kind conn m0 f0 num ahead tell) (hv : OV w x b o) (hx : XV w x xb m) (hm : MsgF m f) (c21 : m[21]? = some (.int .u32 num)) (hn : num < 4294967296)
    (ht : TV w x tb v t) (hu : TV w x ub u t) (hok : t.Ok) (h : ∀ w' x', BI w' x' (k + 2) → BStep w x w' x' → Q (.bool true) w') : lodestarlaw18_Both_Do_j8 Q (pt x.blk 0) (pt b 0) (pt xb 0) (pt tb 0) (I e) (pt ub 0) (I e) w := by
  unfold lodestarlaw18_Both_Do_j8
  simp [-ld_api_Turn]
  rw [ht.ld, hu.ld]
  refine SameT_spec ht.tb.rep hu.tb.rep hok.1 (by have := hok.2.1; omega) (by have := hok.2.2; omega) fun w1 x1 => ?_
  simp
  unfold lodestarlaw18_Both_Do_j12
  simp
  unfold lodestarlaw18_Both_Do_j9
  have s1 := BStep.idle x x1
  have hi1 := hi.ext x1 (by simp)
  have ht1 := ht.step s1
  have hv1 := hv.step s1
  obtain ⟨vo, vs, hta⟩ := ht1.cells
  simp [hta]
  have go : ∀ c w2, Ext [] w1 w2 → lodestarlaw18_Both_Do_j11 Q (pt x.blk 0) (pt xb 0) (pt tb 0) (.bool c) w2 := by
    intro c w2 x2
    have s2 := s1.trans (BStep.idle x x2)
    exact Do_j11_spec (hi1.ext x2 (by simp)) hk (hx.step s2) hm c21 hn (ht.step s2) fun w' x' k1 k2 => h w' x' k1 (s2.trans k2)
  cases t.do_ with
  | true =>
    simp [hv1.at_, ho.c31]
    exact go _ _ (Ext.refl _ _)
  | false =>
    simp
    exact go _ _ (Ext.refl _ _)

theorem Do_j7_spec {w : World} {x : Bo} {b xb tb k kind num ahead e : Nat} {conn : Int} {m0 m : Msg} {f0 f : MF} {tell : Bool} {o : Array Value} {v : Value} {t : MT} {Q : Cont} (p : BP w x) (ok : x.gr.abs.Ok) (l1 : x.gr.last + 1 < 18446744073709551616) (l2 : ∀ s ∈ x.gr.sess, s.tok ≤ x.gr.last) (l3 : ∀ s ∈ x.gr.sess, s.ans.length + 1 < 1073741824) (z : x.gr.Z)
    (hin : x.gr.abs.in_ conn x.now f = (x.gh.abs, t, e)) (lim : x.gh.abs.Lim (k + 1)) (dn : x.dn ≤ k) (now : x.now < 4294967296) (hk : k ≤ 1000) (ho : OpF o kind conn m0 f0 num ahead tell) (hv : OV w x b o) (hx : XV w x xb m) (hm : MsgF m f) (c21 : m[21]? = some (.int .u32 num)) (hn : num < 4294967296)
    (ht : TV w x tb v t) (hok : t.Ok) (h : ∀ w' x', BI w' x' (k + 2) → BStep w x w' x' → Q (.bool true) w') : lodestarlaw18_Both_Do_j7 Q (pt x.blk 0) (pt b 0) (pt xb 0) (pt tb 0) (I e) w := by
  have fin : ∀ (g1 : Rh) w2 ub u, BP w2 { x with gr := g1 } → BStep w x w2 { x with gr := g1 } → g1.abs = x.gh.abs → g1.Z → TV w2 { x with gr := g1 } ub u t →
      lodestarlaw18_Both_Do_j8 Q (pt x.blk 0) (pt b 0) (pt xb 0) (pt tb 0) (I e) (pt ub 0) (I e) w2 := by
    intro g1 w2 ub u p2 s2 ha hz hu
    have hi2 : BI w2 { x with gr := g1 } (k + 1) := ⟨p2, ha, hz, lim, by show x.dn ≤ k + 1; omega, now⟩
    exact Do_j8_spec (x := { x with gr := g1 }) hi2 hk ho (hv.step s2) (hx.step s2) hm c21 hn (ht.step s2) hu hok fun w' x' k1 k2 => h w' x' k1 (s2.trans k2)
  have hat := p.at_
  have hov := hv.at_
  have hc1 := ho.c1
  have hxa := hx.at_
  have hra : rowOf (hp w xb) 0 28 = some (.agg m) := by rw [hxa]; exact rowOf_whole _ _ _ _ hm.ok.size
  have nb := lt_of_hp hat
  have no := lt_of_hp hov
  have nx := lt_of_hp hxa
  have x0 : Ext [] w (drw w) := (Ext.refl _ _).drw
  have p0 := p.ext x0 (by simp)
  unfold lodestarlaw18_Both_Do_j7
  simp [hat, hov, hc1, hra]
  refine ⟨?_, ?_⟩
  · refine RIn_spec p0.rr ok now hm l1 l2 l3 fun w1 g1 u st1 ha1 hT1 => ?_
    rw [hin] at ha1 hT1
    rw [hin]
    obtain ⟨p1, s1⟩ := p0.rstep st1
    simp [-st_api_Turn]
    have x2 : Ext [] w1 (w1.alloc (.cells zT 45)) := (Ext.refl _ _).alloc
    have s2 : BStep w x (w1.alloc (.cells zT 45)) { x with gr := g1 } := ((BStep.idle x x0).trans s1).trans (BStep.idle _ x2)
    have p2 := p1.ext x2 (by simp)
    have htb : TB (w1.alloc (.cells zT 45)) { x with gr := g1 } u t := (TB.of (x := { x with gr := g1 }) hT1 (fun b hb hbo => ⟨p0.hub.fresh hb, hbo, by simp at hb ⊢; omega, fun hm => by have := (p.vd.ob_ge b hm).2; simp at hb; omega⟩)).step (BStep.idle _ x2)
    refine TV.store (c := zT) htb p2 (p1.lt (Nat.le_refl _)) (by simp) rfl (inR_of hT1) (.inr (Nat.le_refl _)) fun w3 e3 p3 hu => ?_
    exact fin g1 w3 _ u p3 (s2.fresh e3 (by simp; have := st1.size; simpa using this)) ha1 (st1.z z) hu
  · have hnb : ¬ x.blk = w.heap.size := by omega
    have hno : ¬ b = w.heap.size := by omega
    have hnx : ¬ xb = w.heap.size := by omega
    have hra' : rowOf (some (Obj.cells m 37 (0, 0))) 0 28 = some (.agg m) := rowOf_whole _ _ _ _ hm.ok.size
    simp [hat, hov, hc1, hra, hnb, hno, hnx]
    obtain ⟨w1, hw1⟩ : ∃ w1, w1 = (drw w).alloc (.cells zT 45) := ⟨_, rfl⟩
    rw [← hw1]
    have x1 : Ext [] w w1 := by rw [hw1]; exact x0.alloc
    have hv1 : hp w1 w.heap.size = some (.cells zT 45 (0, 0)) := by rw [hw1]; simp
    have hs1 : w1.heap.size = w.heap.size + 1 := by rw [hw1]; simp
    clear hw1
    have p1 := p.ext x1 (by simp)
    refine RIn_spec p1.rr ok now hm l1 l2 l3 fun w2 g2 u st2 ha2 hT2 => ?_
    rw [hin] at ha2 hT2
    rw [hin]
    obtain ⟨p2, s2⟩ := p1.rstep st2
    have s02 := (BStep.idle x x1).trans s2
    have fvb : x.free w.heap.size := p.lt (Nat.le_refl _)
    have fvb2 := s2.keep w.heap.size (by omega) fvb
    have hv2 : hp w2 w.heap.size = some (.cells zT 45 (0, 0)) := by rw [s2.same _ (by omega) fvb]; exact hv1
    simp [-st_api_Turn]
    have htb : TB w2 { x with gr := g2 } u t := TB.of hT2 (fun b hb hbo => ⟨p1.hub.fresh hb, hbo, by show b ≠ x.blk; omega, fun hm => by have := (p.vd.ob_ge b hm).2; omega⟩)
    refine TV.store htb p2 fvb2 hv2 rfl (inR_of hT2) (.inl (by omega)) fun w3 e3 p3 hu => ?_
    exact fin g2 w3 _ u p3 (s02.fresh e3 (by simp)) ha2 (st2.z z) hu

theorem Do_j6_spec {w : World} {x : Bo} {b xb k kind num ahead : Nat} {conn : Int} {m0 m : Msg} {f0 f : MF} {tell : Bool} {o : Array Value} {Q : Cont} (hi : BI w x k) (hk : k ≤ 1000) (ho : OpF o kind conn m0 f0 num ahead tell) (hv : OV w x b o) (hx : XV w x xb m) (hm : MsgF m f) (c21 : m[21]? = some (.int .u32 num)) (hn : num < 4294967296)
    (h : ∀ w' x', BI w' x' (k + 2) → BStep w x w' x' → Q (.bool true) w') : lodestarlaw18_Both_Do_j6 Q (pt x.blk 0) (pt b 0) (pt xb 0) w := by
  have p := hi.bp
  obtain ⟨m1, t1, e1, hin⟩ : ∃ m1 t1 e1, x.gh.abs.in_ conn x.now f = (m1, t1, e1) := ⟨_, _, _, rfl⟩
  have hlim := in_lim (n := conn) (now := x.now) (f := f) hi.lim
  rw [hin] at hlim
  have fin : ∀ (g1 : Hb) w2 ub u, BP w2 { x with gh := g1 } → BStep w x w2 { x with gh := g1 } → g1.abs = m1 → TV w2 { x with gh := g1 } ub u t1 →
      lodestarlaw18_Both_Do_j7 Q (pt x.blk 0) (pt b 0) (pt xb 0) (pt ub 0) (I e1) w2 := by
    intro g1 w2 ub u p2 s2 ha hu
    exact Do_j7_spec (x := { x with gh := g1 }) p2 hi.ok (hi.rlast (by omega)) hi.rtok (hi.rlen (by omega)) hi.z (by show x.gr.abs.in_ conn x.now f = _; rw [hi.sim, hin, ← ha]) (by show g1.abs.Lim (k + 1); rw [ha]; exact hlim.1) hi.dn hi.now hk ho (hv.step s2) (hx.step s2) hm c21 hn hu hlim.2 fun w' x' k1 k2 => h w' x' k1 (s2.trans k2)
  have hat := p.at_
  have hov := hv.at_
  have hc1 := ho.c1
  have hxa := hx.at_
  have hra : rowOf (hp w xb) 0 28 = some (.agg m) := by rw [hxa]; exact rowOf_whole _ _ _ _ hm.ok.size
  have nb := lt_of_hp hat
  have no := lt_of_hp hov
  have nx := lt_of_hp hxa
  have x0 : Ext [] w (drw w) := (Ext.refl _ _).drw
  have p0 := p.ext x0 (by simp)
  unfold lodestarlaw18_Both_Do_j6
  simp [hat, hov, hc1, hra]
  refine ⟨?_, ?_⟩
  · refine In_spec p0.hub p0.wf hi.now hm (hi.last (by omega)) fun w1 g1 u st1 ha1 hT1 => ?_
    rw [hin] at ha1 hT1
    rw [hin]
    obtain ⟨p1, s1⟩ := p0.hstep st1
    simp [-st_api_Turn]
    have x2 : Ext [] w1 (w1.alloc (.cells zT 45)) := (Ext.refl _ _).alloc
    have s2 : BStep w x (w1.alloc (.cells zT 45)) { x with gh := g1 } := ((BStep.idle x x0).trans s1).trans (BStep.idle _ x2)
    have p2 := p1.ext x2 (by simp)
    have htb : TB (w1.alloc (.cells zT 45)) { x with gh := g1 } u t1 := (TB.of (x := { x with gh := g1 }) hT1 (fun b hb hbo => ⟨hbo, p0.rr.fresh hb, by simp at hb ⊢; omega, fun hm => by have := (p.vd.ob_ge b hm).2; simp at hb; omega⟩)).step (BStep.idle _ x2)
    refine TV.store (c := zT) htb p2 (p1.lt (Nat.le_refl _)) (by simp) rfl (inR_of hT1) (.inr (Nat.le_refl _)) fun w3 e3 p3 hu => ?_
    exact fin g1 w3 _ u p3 (s2.fresh e3 (by simp; have := st1.size; simpa using this)) ha1 hu
  · have hnb : ¬ x.blk = w.heap.size := by omega
    have hno : ¬ b = w.heap.size := by omega
    have hnx : ¬ xb = w.heap.size := by omega
    have hra' : rowOf (some (Obj.cells m 37 (0, 0))) 0 28 = some (.agg m) := rowOf_whole _ _ _ _ hm.ok.size
    simp [hat, hov, hc1, hra, hnb, hno, hnx]
    obtain ⟨w1, hw1⟩ : ∃ w1, w1 = (drw w).alloc (.cells zT 45) := ⟨_, rfl⟩
    rw [← hw1]
    have x1 : Ext [] w w1 := by rw [hw1]; exact x0.alloc
    have hv1 : hp w1 w.heap.size = some (.cells zT 45 (0, 0)) := by rw [hw1]; simp
    have hs1 : w1.heap.size = w.heap.size + 1 := by rw [hw1]; simp
    clear hw1
    have p1 := p.ext x1 (by simp)
    refine In_spec p1.hub p1.wf hi.now hm (hi.last (by omega)) fun w2 g2 u st2 ha2 hT2 => ?_
    rw [hin] at ha2 hT2
    rw [hin]
    obtain ⟨p2, s2⟩ := p1.hstep st2
    have s02 := (BStep.idle x x1).trans s2
    have fvb : x.free w.heap.size := p.lt (Nat.le_refl _)
    have fvb2 := s2.keep w.heap.size (by omega) fvb
    have hv2 : hp w2 w.heap.size = some (.cells zT 45 (0, 0)) := by rw [s2.same _ (by omega) fvb]; exact hv1
    simp [-st_api_Turn]
    have htb : TB w2 { x with gh := g2 } u t1 := TB.of hT2 (fun b hb hbo => ⟨hbo, p1.rr.fresh hb, by show b ≠ x.blk; omega, fun hm => by have := (p.vd.ob_ge b hm).2; omega⟩)
    refine TV.store htb p2 fvb2 hv2 rfl (inR_of hT2) (.inl (by omega)) fun w3 e3 p3 hu => ?_
    exact fin g2 w3 _ u p3 (s02.fresh e3 (by simp)) ha2 hu
end Go.Proofs.Ytpdcllhmbjnooaa
