/- The reference's hub: a session goes on. -/
import Derived.Test.YtpdcllhmbjnooaaRg
namespace Go.Proofs.Ytpdcllhmbjnooaa
open Go.Dc
set_option maxRecDepth 10000

theorem LAt.drw {w : World} {g : Rh} {L cap : Nat} (h : LAt w g L cap) : LAt (Go.Dc.drw w) g L cap := ⟨h.vl, h.cell, h.row, h.own⟩
theorem RsRep.upd {w w' : World} {own : Nat → Tag} {s t : Rs} {L : Nat} (h : RsRep w own s) (hL : own L = .hub 2) (x : Ext [L] w w') (q1 : t.tok = s.tok) (q2 : t.va = s.va) (q3 : t.ans = s.ans) (q4 : t.acked = s.acked) (q5 : t.size = s.size) (q6 : t.had < 4294967296) (q7 : t.caps = s.caps) (q8 : t.since < 4294967296) : RsRep w' own t := by
  have := h.ext x fun b hb e => by simp at hb; rw [hb, hL] at e; cases e
  exact ⟨by rw [q2, q3]; exact this.va, by rw [q2, q1]; exact this.own, by rw [q3]; exact this.msgs, by rw [q3, q4]; exact this.ack, by rw [q3]; exact this.len, q6, by rw [q5]; exact this.s1, by rw [q5]; exact this.s8, by rw [q7]; exact this.caps, q8⟩

def Rs.join (s : Rs) (n : Int) (m : Nat) : Rs := { s with has := true, conn := n, had := max s.had m }

theorem fresh_j7_spec {w0 w : World} {g0 g : Rh} {n : Int} {k xb vb tb : Nat} {s : Rs} {m : Msg} {f : MF} {vs : Value} {sh : List Int} {Q : Cont} (st0 : RStep w0 g0 w g) (hl8 : g.sess.length ≤ 8) (hk : g.sess[k]? = some s) (hm : MsgF m f)
    (hx : hp w xb = some (.cells m 37 (0, 0))) (hxo : g.own xb = .none) (hv : hp w vb = some (.cells #[.slice none 0 0, .slice none 0 0, .bool false, .int .u64 0] 45 (0, 0))) (hvo : g.own vb = .none) (h0v : w0.heap.size ≤ vb)
    (ht : hp w tb = some (.cells #[.slice none 0 0, vs, .bool false, .int .u64 0] 45 (0, 0))) (hto : g.own tb = .none) (h0t : w0.heap.size ≤ tb) (hvt : vb < tb) (hvs : Own w g.own (tb + 1) vs 3 sh.length (sh.map (Value.int .i64)).toArray)
    (h : ∀ w' g' v, RStep w0 g0 w' g' → g'.abs = (g.setR k (s.join n f.n)).abs → TurnRep w' g'.own w0.heap.size v ⟨[mKN 4 s.ans.length, mKN 9 ((s.join n f.n).abs.limit : Nat)], sh, false, 0⟩ → Q v w') :
    lodestarref18_Hub_fresh_j7 Q (pt g.blk 0) (I n) (pt xb 0) (pt vb 0) (I k) (pt tb 0) w := by
  have hr := st0.rep
  have hat := hr.at_
  unfold Rh.cells at hat
  obtain ⟨L, cap, hL⟩ := hr.lat (by intro e; rw [e] at hk; simp at hk)
  have hkl := (List.getElem?_eq_some_iff.1 hk).1
  have hvl := hL.vl
  have hs := hr.sess s (List.mem_of_getElem? hk)
  have hb5 := hm.b5
  have hadB := hs.hadB
  unfold lodestarref18_Hub_fresh_j7
  /- has -/
  obtain ⟨c1, q1, q2, q3, q4⟩ := hr.write (k := k) (j := 7) (s' := { s with has := true }) (v := .bool true) hL hk (by decide) rfl rfl (fun w' x => hs.upd hL.own x rfl rfl rfl rfl rfl hs.hadB rfl hs.since)
  obtain ⟨w1, hw1⟩ : ∃ w1, w1 = put w L (.cells (c1.setIfInBounds (k * 10 + 7) (.bool true)) 116 (0, 0)) := ⟨_, rfl⟩
  rw [hvl] at hat
  simp only [nc_pt, fa_lodestarref18_Hub_L, Nat.zero_add, ld_s_lodestarref18_Session, hat, cellOf_some, List.getElem?_toArray, List.getElem?_cons_succ, List.getElem?_cons_zero, optK_some, ia_s_lodestarref18_Session]
  rw [ifK_pos (by simp; omega), fa_lodestarref18_Session_Has]
  simp only [Int.toNat_natCast]
  refine st_at (w' := w1) (by kernel_rfl) rfl q1 q2 hw1 ?_
  rw [← hw1] at q3 q4
  have x1 : Ext [L] w w1 := by rw [hw1]; exact Ext.put (Ext.refl _ _) (.inl (by simp))
  clear hw1
  have l1 : (g.setR k { s with has := true }).sess.length = g.sess.length := by simp [Rh.setR]
  have hat1 := q3.at_
  have hvl1 := q4.vl
  rw [l1] at hvl1
  unfold Rh.cells at hat1
  rw [hvl1] at hat1
  have hat1' : hp w1 g.blk = _ := hat1
  /- conn -/
  obtain ⟨c2, r1, r2, r3, r4⟩ := q3.write (k := k) (j := 8) (s' := { s with has := true, conn := n }) (v := I n) q4 (set_get hk) (by decide) rfl rfl (fun w' x => hs.upd hL.own (x1.trans x (by simp)) rfl rfl rfl rfl rfl hs.hadB rfl hs.since)
  obtain ⟨w2, hw2⟩ : ∃ w2, w2 = put w1 L (.cells (c2.setIfInBounds (k * 10 + 8) (I n)) 116 (0, 0)) := ⟨_, rfl⟩
  simp only [nc_pt, fa_lodestarref18_Hub_L, Nat.zero_add, ld_s_lodestarref18_Session, hat1', cellOf_some, List.getElem?_toArray, List.getElem?_cons_succ, List.getElem?_cons_zero, optK_some, ia_s_lodestarref18_Session]
  rw [ifK_pos (by simp; omega), fa_lodestarref18_Session_Conn]
  simp only [Int.toNat_natCast]
  refine st_at (w' := w2) (by kernel_rfl) rfl r1 r2 hw2 ?_
  rw [← hw2] at r3 r4
  have x2 : Ext [L] w w2 := by rw [hw2]; exact x1.put (.inl (by simp))
  clear hw2
  have l2 : ((g.setR k { s with has := true }).setR k { s with has := true, conn := n }).sess.length = g.sess.length := by simp [Rh.setR]
  have hg2 : (g.setR k { s with has := true }).setR k { s with has := true, conn := n } = g.setR k { s with has := true, conn := n } := by simp [Rh.setR]
  rw [hg2] at r3 r4
  have hat2 := r3.at_
  have hvl2 := r4.vl
  rw [show (g.setR k { s with has := true, conn := n }).sess.length = g.sess.length from by simp [Rh.setR]] at hvl2
  unfold Rh.cells at hat2
  rw [hvl2] at hat2
  have hat2' : hp w2 g.blk = _ := hat2
  have hk2 : (g.setR k { s with has := true, conn := n }).sess[k]? = some { s with has := true, conn := n } := set_get hk
  have d5 := r4.cell k _ hk2 5 _ rfl
  have hLx : xb ≠ L := by intro e; rw [e, hL.own] at hxo; cases hxo
  have hx2 := x2.at hx (by simpa using hLx)
  simp [hat2', d5, hx2, hm.k5, hkl, -st_int]
  rw [wrap_i64 _ (by omega) (by omega)]
  have em : (if (s.had : Int) < (f.n : Int) then (f.n : Int) else (s.had : Int)) = ((max s.had f.n : Nat) : Int) := by omega
  rw [em]
  obtain ⟨c3, t1, t2, t3, t4⟩ := (r3.drw).write (k := k) (j := 5) (s' := s.join n f.n) (v := I (max s.had f.n : Nat)) (L := L) (cap := cap) ⟨r4.vl, r4.cell, r4.row, r4.own⟩ hk2 (by decide) rfl rfl
    (fun w' x => hs.upd hL.own ((x2.drw).trans x (by simp)) rfl rfl rfl rfl rfl (by show max s.had f.n < _; omega) rfl hs.since)
  obtain ⟨w3, hw3⟩ : ∃ w3, w3 = put (drw w2) L (.cells (c3.setIfInBounds (k * 10 + 5) (I (max s.had f.n : Nat))) 116 (0, 0)) := ⟨_, rfl⟩
  refine st_at (w' := w3) (by kernel_rfl) rfl t1 t2 hw3 ?_
  rw [← hw3] at t3 t4
  have x3 : Ext [L] w w3 := by rw [hw3]; exact (x2.drw).put (.inl (by simp))
  clear hw3
  have hg3 : (g.setR k { s with has := true, conn := n }).setR k (s.join n f.n) = g.setR k (s.join n f.n) := by simp [Rh.setR]
  rw [hg3] at t3 t4
  have hat3 := t3.at_
  have hvl3 := t4.vl
  rw [show (g.setR k (s.join n f.n)).sess.length = g.sess.length from by simp [Rh.setR]] at hvl3
  unfold Rh.cells at hat3
  rw [hvl3] at hat3
  have hat3' : hp w3 g.blk = _ := hat3
  have hk3 : (g.setR k (s.join n f.n)).sess[k]? = some (s.join n f.n) := set_get hk
  have e2 := t4.cell k _ hk3 2 _ rfl
  have e2' : cellOf (hp w3 L) (k * 10 + 2) = some s.va := e2
  have hva3 := (t3.sess _ (List.mem_of_getElem? hk3)).va
  have hva3' : Vec w3 0 37 28 s.va s.ans.length (flatM s.ans) := hva3
  have hLt : tb ≠ L := by intro e; rw [e, hL.own] at hto; cases hto
  have hLv : vb ≠ L := by intro e; rw [e, hL.own] at hvo; cases hvo
  have ht3 := x3.at ht (by simpa using hLt)
  have hv3 := x3.at hv (by simpa using hLv)
  have hlen := hs.len
  have wl : IntKind.wrap .u32 (s.ans.length : Int) = (s.ans.length : Int) := wrap_u32 _ (by omega) (by omega)
  simp [hat3', e2', hkl, Vec.len42q hva3', wl, -bs_s_api_Message_2_0_1]
  refine RLimit_spec t4.drw hk3 (by show max s.had f.n < _; omega) hs.s8 ?_
  have hlim : (s.join n f.n).abs.limit ≤ 1073741824 := by show min _ _ ≤ _; omega
  have wl2 : IntKind.wrap .u32 ((s.join n f.n).abs.limit : Int) = ((s.join n f.n).abs.limit : Int) := wrap_u32 _ (by omega) (by omega)
  simp [hat3', e2', hkl, Vec.len42q hva3', wl, wl2, -bs_s_api_Message_2_0_1]
  rw [bs_msg2 (mKN_ok _ _).size (mKN_ok _ _).size]
  have htl := lt_of_hp ht3
  have hvll := lt_of_hp hv3
  have hone := hvs.one
  simp [-st_api_Turn, ht3, Nat.ne_of_lt htl, Nat.lt_succ_of_lt htl]
  obtain ⟨w4, hw4⟩ : ∃ w4, w4 = put ((drw (drw w3)).alloc (.cells (mKN 4 s.ans.length ++ mKN 9 (s.join n f.n).abs.limit) 37)) tb (.cells #[.slice (some ⟨w3.heap.size, 0, none⟩) 2 2, vs, .bool false, .int .u64 0] 45 (0, 0)) := ⟨_, rfl⟩
  rw [← hw4]
  have x4 : Ext [tb] w3 w4 := by rw [hw4]; exact (((Ext.refl _ _).drw.drw).alloc).put (.inl (by simp))
  have hout : hp w4 w3.heap.size = some (.cells (mKN 4 s.ans.length ++ mKN 9 (s.join n f.n).abs.limit) 37 (0, 0)) := by
    rw [hw4]
    simp [show ¬ w3.heap.size = tb from by omega]
  have hv4 : hp w4 vb = some (.cells #[.slice none 0 0, .slice none 0 0, .bool false, .int .u64 0] 45 (0, 0)) := x4.at hv3 (by simp; omega)
  clear hw4
  have xw4 : Ext [L, tb] w w4 := (x3.mono (by simp)).trans x4 (by simp)
  have st3 : RStep w g w3 (g.setR k (s.join n f.n)) := RStep.of x3 (by intro b hb _; simp at hb; rw [hb, hL.own]; simp) (fun _ _ h => h) rfl t3 (fun hz x hx hh => by
    rcases List.mem_or_eq_of_mem_set hx with hx | rfl
    · exact hz x hx hh
    · cases hh)
  have st4 : RStep w0 g0 w4 (g.setR k (s.join n f.n)) := (st0.trans st3).fresh x4 (by simp; exact ⟨h0t, hto⟩)
  refine Rthrough (base := tb + 1) st4 ⟨⟨_, _, rfl, .inr ⟨w3.heap.size, by omega, t3.fresh (Nat.le_refl _), rfl, ?_⟩, ?_⟩, ?_⟩ (by omega) h0v (by omega) hvo hv4 rfl fun w' k1 k2 => h w' _ _ k1 rfl k2
  · rw [hout]
    simp [flat]
  · exact hvs.ext xw4 (by intro b hb; simp at hb; rcases hb with rfl | rfl; exact .inr (.inl (by rw [hL.own]; simp)); exact .inl (by omega))
  · intro x hx
    simp at hx
    rcases hx with rfl | rfl <;> exact mKN_ok _ _

def Rs.acks (s : Rs) (n : Nat) : Rs := { s with acked := max s.acked n }

theorem done_abs {s : Rs} (h : s.acked ≤ s.ans.length) : s.abs.done = s.ans.length := by
  unfold MS.done Rs.abs
  simp
  omega
theorem acks_abs {s : Rs} {n : Nat} (h : s.acked ≤ s.ans.length) (hn : n ≤ s.ans.length) : (s.acks n).abs = s.abs.ack n := by
  unfold MS.ack
  rw [if_neg (by rw [done_abs h]; omega)]
  unfold Rs.acks Rs.abs
  simp only [List.drop_drop]
  congr 2
  omega
theorem join_abs {s : Rs} {n : Int} {m : Nat} (h8 : s.size ≤ 8) : (s.join n m).abs = (s.abs.join n).had m := by
  unfold Rs.join Rs.abs MS.join MS.had
  simp
  omega

theorem MH.Ok.same {m m' : MH} (ok : m.Ok) (h1 : m'.conns = m.conns) (h2 : m'.sess.map (fun s => (s.tok, s.conn)) = m.sess.map (fun s => (s.tok, s.conn))) : m'.Ok := by
  have e : ∀ s ∈ m'.sess, ∃ t ∈ m.sess, t.tok = s.tok ∧ t.conn = s.conn := by
    intro s hs
    have : (s.tok, s.conn) ∈ m'.sess.map (fun s => (s.tok, s.conn)) := List.mem_map.2 ⟨s, hs, rfl⟩
    rw [h2] at this
    obtain ⟨t, ht, h3⟩ := List.mem_map.1 this
    injection h3 with h3 h4
    exact ⟨t, ht, h3, h4⟩
  have e2 : m'.sess.map (·.tok) = m.sess.map (·.tok) := by
    have := congrArg (List.map Prod.fst) h2
    simpa [List.map_map, Function.comp_def] using this
  refine ⟨fun s hs n hn => ?_, fun s hs t ht n h3 h4 => ?_, by rw [h1]; exact ok.ndC, by rw [e2]; exact ok.ndS, by rw [h1]; exact ok.lc, ?_⟩
  · obtain ⟨t, ht, h3, h4⟩ := e s hs
    rw [h1]
    exact ok.sc t ht n (by rw [h4]; exact hn)
  · obtain ⟨a, ha, q1, q2⟩ := e s hs
    obtain ⟨b, hb, q3, q4⟩ := e t ht
    rw [← q1, ← q3]
    exact ok.u a ha b hb n (by rw [q2]; exact h3) (by rw [q4]; exact h4)
  · have := congrArg List.length h2
    simp at this
    rw [this]
    exact ok.ls

theorem fresh_resume {w0 w : World} {g : Rh} {n : Int} {now xb vb : Nat} {m : Msg} {f : MF} {Q : Cont} (st0 : RStep w0 g w g) (ok : g.abs.Ok) (hnow : now < 4294967296) (hm : MsgF m f)
    (hx : hp w xb = some (.cells m 37 (0, 0))) (hxo : g.own xb = .none) (hv : hp w vb = some (.cells #[.slice none 0 0, .slice none 0 0, .bool false, .int .u64 0] 45 (0, 0))) (hvo : g.own vb = .none) (h0v : w0.heap.size ≤ vb)
    (h : ∀ w' g' v, RStep w0 g w' g' → g'.abs = (g.abs.resume n now f).1 → TurnRep w' g'.own w0.heap.size v (g.abs.resume n now f).2 → Q v w') :
    lodestarref18_Hub_fresh_j2 Q (pt g.blk 0) (I n) (.int .u32 now) (pt xb 0) (pt vb 0) w := by
  have hr := st0.rep
  have hat := hr.at_
  unfold Rh.cells at hat
  have hvlt := lt_of_hp hv
  have hs8 : g.sess.length ≤ 8 := by have := ok.ls; unfold Rh.abs at this; simpa using this
  have ex : ∀ (w1 : World) (code : Nat), Ext [] w w1 → code < 256 → g.abs.resume n now f = (g.abs.close n now, shutT n 5 code) →
      Ret pg n_lodestarref18_Hub_shut #[pt g.blk 0, I n, .int .u32 now, .int .u8 5, .int .i64 code] (fun v157 => st 45 (pt vb 0) v157 fun _ => (fun w => ldq 45 (pt vb 0) (fun v158 => Q v158 w) w)) w1 := by
    intro w1 code x1 hcode he
    have st1 := st0.trans (RStep.idle hr x1)
    refine Rshut_spec (kind := 5) st1.rep ok hnow hcode fun w2 g2 v st2 hab hT => ?_
    rw [he] at h
    have hvo2 := st2.own vb (Nat.lt_of_lt_of_le hvlt x1.size) hvo
    have hv2 : hp w2 vb = some (.cells #[.slice none 0 0, .slice none 0 0, .bool false, .int .u64 0] 45 (0, 0)) := by
      rw [st2.same vb (Nat.lt_of_lt_of_le hvlt x1.size) hvo, x1.same vb hvlt (by simp)]; exact hv
    exact Rthrough (st1.trans st2) hT st1.size h0v (Nat.lt_of_lt_of_le hvlt x1.size) hvo2 hv2 rfl fun w' k1 k2 => h w' g2 v k1 hab k2
  unfold lodestarref18_Hub_fresh_j2
  simp [hx, hm.k3]
  refine At_spec hr hs8 ?_
  unfold lodestarref18_Hub_fresh_j3
  rcases idx_cases (fun s => decide (s.tok = f.tok)) g.sess with ⟨k, s, hk, hpp, hidx, hkl⟩ | ⟨hidx, hnone⟩
  · rw [hidx]
    have hfind := rfind_some hr.ndS hk (by simpa using hpp : s.tok = f.tok)
    have hs := hr.sess s (List.mem_of_getElem? hk)
    have hb5 := hm.b5
    rw [bo_lss, iteW_bool, ifB_neg (by simp)]
    unfold lodestarref18_Hub_fresh_j4
    obtain ⟨L, cap, hL⟩ := hr.lat (by intro e; rw [e] at hk; simp at hk)
    have hvl := hL.vl
    have wn : IntKind.wrap .i64 (f.n : Int) = (f.n : Int) := wrap_i64 _ (by omega) (by omega)
    simp [hat, hvl, hkl, hx, hm.k5, wn]
    refine RAck_spec hr.drw hL.drw hk (fun hlt => ?_) (fun hle w1 x1 z1 hr1 hL1 => ?_)
    · simp
      exact ex _ 180 ((Ext.refl _ _).drw) (by decide) (by unfold MH.resume; rw [hfind]; simp only; rw [if_pos (by rw [done_abs hs.ack]; exact hlt)])
    · simp
      have x1' : Ext [L] w w1 := ((Ext.refl _ _).drw).trans x1 (by simp)
      have hLx : xb ≠ L := by intro e; rw [e, hL.own] at hxo; cases hxo
      have hLv : vb ≠ L := by intro e; rw [e, hL.own] at hvo; cases hvo
      have hx1 := x1'.at hx (by simpa using hLx)
      have hv1 := x1'.at hv (by simpa using hLv)
      obtain ⟨g1, hg1⟩ : ∃ g1, g1 = g.setR k (s.acks f.n) := ⟨_, rfl⟩
      have hr1' : RRep w1 g1 := by rw [hg1]; exact hr1
      have hL1' : LAt w1 g1 L cap := by rw [hg1]; exact hL1
      have hk1 : g1.sess[k]? = some (s.acks f.n) := by rw [hg1]; exact set_get hk
      have e_blk : g1.blk = g.blk := by rw [hg1]; rfl
      have e_own : g1.own = g.own := by rw [hg1]; rfl
      have e_len : g1.sess.length = g.sess.length := by rw [hg1]; simp [Rh.setR]
      have e_abs : g1.abs = g.abs.put (s.abs.ack f.n) := by rw [hg1, setR_abs (s' := s.acks f.n) hr.ndS hk rfl, acks_abs hs.ack hle]
      have st1 : RStep w g w1 g1 := RStep.of x1' (by intro b hb _; simp at hb; rw [hb, hL.own]; simp) (fun b _ hn => by rw [e_own]; exact hn) e_blk hr1' (fun hz => by rw [hg1]; exact Z_set hz hk rfl rfl)
      have ok1 : g1.abs.Ok := by
        refine ok.same (by rw [e_abs]; rfl) ?_
        rw [hg1]
        unfold Rh.setR Rh.abs
        simp only [List.map_map]
        apply List.ext_getElem?
        intro i
        rw [List.getElem?_map, List.getElem?_map, List.getElem?_set]
        by_cases hi : k = i
        · subst hi
          rw [if_pos rfl, if_pos hkl, hk]
          rfl
        · rw [if_neg hi]
      clear hg1 hr1 hL1
      unfold lodestarref18_Hub_fresh_j5
      rw [← e_blk]
      simp
      obtain ⟨w2, hw2⟩ : ∃ w2, w2 = w1.alloc (.cells #[.slice none 0 0, .slice none 0 0, .bool false, .int .u64 0] 45) := ⟨_, rfl⟩
      rw [← hw2]
      have x2 : Ext [] w1 w2 := by rw [hw2]; exact (Ext.refl _ _).alloc
      have ht2 : hp w2 w1.heap.size = some (.cells #[.slice none 0 0, .slice none 0 0, .bool false, .int .u64 0] 45 (0, 0)) := by rw [hw2]; simp
      have s2 : w2.heap.size = w1.heap.size + 1 := by rw [hw2]; simp
      clear hw2
      have hr2 := hr1'.ext x2 (by simp)
      have st2 := (st0.trans st1).trans (RStep.idle hr1' x2)
      have hL2 : LAt w2 g1 L cap := ⟨hL1'.vl, fun k s hk j u hu => by rw [x2.same L (hr1'.lt L (by rw [hL1'.own]; simp)) (by simp)]; exact hL1'.cell k s hk j u hu, fun k s hk => by rw [x2.same L (hr1'.lt L (by rw [hL1'.own]; simp)) (by simp)]; exact hL1'.row k s hk, hL1'.own⟩
      have hx2 := x2.at hx1 (by simp)
      have hv2 := x2.at hv1 (by simp)
      have hvl1 := lt_of_hp hv1
      have hat2 := hr2.at_
      unfold Rh.cells at hat2
      have hvl2 := hL2.vl
      have c7 := hL2.cell k _ hk1 7 _ rfl
      have c8 := hL2.cell k _ hk1 8 _ rfl
      have c7' : cellOf (hp w2 L) (k * 10 + 7) = some (.bool s.has) := c7
      have c8' : cellOf (hp w2 L) (k * 10 + 8) = some (I s.conn) := c8
      have hkl1 : k < g1.sess.length := by rw [e_len]; exact hkl
      have hno : ∀ b, w1.heap.size ≤ b → g1.own b = .none := fun b hb => hr1'.fresh hb
      unfold lodestarref18_Hub_fresh_j6
      simp [hat2, hvl2, hkl1, c7']
      have hdone := done_abs hs.ack
      cases hh : s.has with
      | false =>
        simp
        have hcn : s.abs.conn = none := by show (if s.has then some s.conn else none) = none; rw [hh]; rfl
        refine fresh_j7_spec (s := s.acks f.n) (sh := []) st2 (by rw [e_len]; exact hs8) hk1 hm hx2 (by rw [e_own]; exact hxo) hv2 (by rw [e_own]; exact hvo) h0v ht2 (hno _ (Nat.le_refl _)) (Nat.le_trans st0.size x1'.size) hvl1 (.inl ⟨rfl, rfl⟩) fun w' g' v k1 k2 k3 => ?_
        refine h w' g' v k1 ?_ ?_
        · rw [k2, setR_abs (s' := (s.acks f.n).join n f.n) hr2.ndS hk1 rfl, e_abs]
          unfold MH.resume
          rw [hfind]
          simp only
          rw [if_neg (by rw [hdone]; omega), hcn]
          simp only
          rw [join_abs (s := s.acks f.n) hs.s8, acks_abs hs.ack hle]
        · unfold MH.resume
          rw [hfind]
          simp only
          rw [if_neg (by rw [hdone]; omega), hcn]
          simp only
          rw [hdone, ← acks_abs hs.ack hle, ← join_abs (s := s.acks f.n) hs.s8]
          exact k3
      | true =>
        have hcn : s.abs.conn = some s.conn := by show (if s.has then some s.conn else none) = _; rw [hh]; rfl
        have n1 : ¬ w1.heap.size = w2.heap.size := by omega
        have n2 : w1.heap.size < w2.heap.size + 1 := by omega
        simp [hat2, hvl2, hkl1, c8', -st_s_int]
        obtain ⟨w3, hw3⟩ : ∃ w3, w3 = put (w2.alloc (.cells #[I s.conn] 3)) w1.heap.size (.cells #[.slice none 0 0, .slice (some ⟨w2.heap.size, 0, none⟩) 1 1, .bool false, .int .u64 0] 45 (0, 0)) := ⟨_, rfl⟩
        refine st_at (w' := w3) (c := #[.slice none 0 0, .slice none 0 0, .bool false, .int .u64 0]) (T := 45) (by kernel_rfl) rfl (by rw [hp_alloc, if_neg n1]; exact ht2) (by simp) hw3 ?_
        have x3 : Ext [w1.heap.size] w2 w3 := by rw [hw3]; exact ((Ext.refl _ _).alloc).put (.inl (by simp))
        have ht3 : hp w3 w1.heap.size = some (.cells #[.slice none 0 0, .slice (some ⟨w2.heap.size, 0, none⟩) 1 1, .bool false, .int .u64 0] 45 (0, 0)) := by rw [hw3]; simp [n2]
        have hl3 : hp w3 w2.heap.size = some (.cells #[I s.conn] 3 (0, 0)) := by rw [hw3]; simp [show ¬ w2.heap.size = w1.heap.size from by omega]
        have s3 : w3.heap.size = w2.heap.size + 1 := by rw [hw3]; simp
        clear hw3
        have hr3 : RRep w3 g1 := hr2.ext x3 (by simp; exact hno _ (Nat.le_refl _))
        have st3 : RStep w0 g w3 g1 := st2.fresh x3 (by simp; exact ⟨Nat.le_trans st0.size x1'.size, hno _ (Nat.le_refl _)⟩)
        have hx3 := x3.at hx2 (by have := lt_of_hp hx1; simp; omega)
        have hv3 := x3.at hv2 (by simp; omega)
        have hLl := hr1'.lt L (by rw [hL1'.own]; simp)
        have hLne : L ∉ [w1.heap.size] := by simp; omega
        have hat3 := hr3.at_
        unfold Rh.cells at hat3
        have c83 : cellOf (hp w3 L) (k * 10 + 8) = some (I s.conn) := by rw [x3.same L (by omega) hLne]; exact c8'
        simp [hat3, hvl2, hkl1, c83]
        refine RClose_spec hr3 ok1 hnow fun w4 g4 st4 hab4 hk4 => ?_
        have hk4' := hk4 k _ hk1
        rw [if_pos (by show (s.has && decide (s.conn = s.conn)) = true; rw [hh]; simp)] at hk4'
        have l1 : w1.heap.size < w3.heap.size := by omega
        have l2 : w2.heap.size < w3.heap.size := by omega
        have hx4 : hp w4 xb = some (.cells m 37 (0, 0)) := by rw [st4.same xb (lt_of_hp hx3) (by rw [e_own]; exact hxo)]; exact hx3
        have hv4 : hp w4 vb = some (.cells #[.slice none 0 0, .slice none 0 0, .bool false, .int .u64 0] 45 (0, 0)) := by rw [st4.same vb (lt_of_hp hv3) (by rw [e_own]; exact hvo)]; exact hv3
        have ht4 := (st4.same w1.heap.size l1 (hno _ (Nat.le_refl _))).trans ht3
        have hl4 := (st4.same w2.heap.size l2 (hno _ (by omega))).trans hl3
        have len4 : g4.sess.length ≤ 8 := by
          have e1 : g4.abs.sess.length = g4.sess.length := by unfold Rh.abs; simp
          have e2 : g1.abs.sess.length = g1.sess.length := by unfold Rh.abs; simp
          rw [← e1, hab4]
          unfold MH.close
          split
          · simp only [List.length_map]; rw [e2, e_len]; exact hs8
          · rw [e2, e_len]; exact hs8
        rw [← st4.blk]
        refine fresh_j7_spec (s := (s.acks f.n).shut now) (sh := [s.conn]) (st3.trans st4) len4 hk4' hm hx4 (st4.own xb (lt_of_hp hx3) (by rw [e_own]; exact hxo)) hv4 (st4.own vb (lt_of_hp hv3) (by rw [e_own]; exact hvo)) h0v ht4
          (st4.own _ l1 (hno _ (Nat.le_refl _))) (Nat.le_trans st0.size x1'.size) hvl1 (.inr ⟨w2.heap.size, by omega, st4.own _ l2 (hno _ (by omega)), rfl, hl4⟩) fun w' g' v k1 k2 k3 => ?_
        have hj : (((s.acks f.n).shut now).join n f.n).abs = (({ s.abs.ack f.n with since := now } : MS).join n).had f.n := by
          rw [join_abs (s := (s.acks f.n).shut now) hs.s8, ← acks_abs hs.ack hle]
          rfl
        refine h w' g' v k1 ?_ ?_
        · rw [k2, setR_abs (s' := ((s.acks f.n).shut now).join n f.n) st4.rep.ndS hk4' rfl, hab4, e_abs]
          unfold MH.resume
          rw [hfind]
          simp only
          rw [if_neg (by rw [hdone]; omega), hcn]
          simp only
          rw [hj]
        · unfold MH.resume
          rw [hfind]
          simp only
          rw [if_neg (by rw [hdone]; omega), hcn]
          simp only
          rw [hdone, ← hj]
          exact k3
  · rw [hidx]
    simp
    exact ex _ 182 (Ext.refl _ _) (by decide) (by unfold MH.resume; rw [rfind_none hnone])

theorem Rfresh_spec {w : World} {g : Rh} {n : Int} {now : Nat} {m : Msg} {f : MF} {Q : Cont} (hr : RRep w g) (ok : g.abs.Ok) (hnow : now < 4294967296) (hm : MsgF m f) (hlast : g.last + 1 < 18446744073709551616) (htok : ∀ s ∈ g.sess, s.tok ≤ g.last)
    (h : ∀ w' g' v, RStep w g w' g' → g'.abs = (g.abs.fresh n now f).1 → TurnRep w' g'.own w.heap.size v (g.abs.fresh n now f).2 → Q v w') :
    Ret pg n_lodestarref18_Hub_fresh #[pt g.blk 0, I n, .int .u32 now, .agg m] Q w := by
  apply lodestarref18_Hub_fresh_ok
  unfold lodestarref18_Hub_fresh
  simp
  obtain ⟨w1, hw1⟩ : ∃ w1, w1 = (w.alloc (.cells m 37)).alloc (.cells #[.slice none 0 0, .slice none 0 0, .bool false, .int .u64 0] 45) := ⟨_, rfl⟩
  rw [← hw1]
  have x1 : Ext [] w w1 := by rw [hw1]; exact ((Ext.refl _ _).alloc).alloc
  have hx : hp w1 w.heap.size = some (.cells m 37 (0, 0)) := by rw [hw1]; simp
  have hv : hp w1 (w.heap.size + 1) = some (.cells #[.slice none 0 0, .slice none 0 0, .bool false, .int .u64 0] 45 (0, 0)) := by rw [hw1]; simp
  clear hw1
  have hvlt := lt_of_hp hv
  have st1 : RStep w g w1 g := RStep.idle hr x1
  have hxo : g.own w.heap.size = .none := hr.fresh (Nat.le_refl _)
  have hvo : g.own (w.heap.size + 1) = .none := hr.fresh (by omega)
  unfold lodestarref18_Hub_fresh_j0
  simp [hx, hm.k0]
  unfold lodestarref18_Hub_fresh_j8
  simp
  unfold MH.fresh at h
  by_cases h1 : f.kind = 1
  · rw [ifB_pos (by simp [h1])]
    rw [if_pos h1] at h
    exact fresh_hello st1 ok hnow hm hlast htok hx hxo hv hvo (by omega) h
  rw [ifB_neg (by simp; omega)]
  rw [if_neg h1] at h
  unfold lodestarref18_Hub_fresh_j1
  simp [hx, hm.k0]
  by_cases h3 : f.kind = 3
  · rw [ifB_neg (by simp [h3])]
    rw [if_pos h3] at h
    exact fresh_resume st1 ok hnow hm hx hxo hv hvo (by omega) h
  · rw [ifB_pos (by simp; omega)]
    rw [if_neg h3] at h
    refine Rshut_spec (kind := 6) (code := 180) st1.rep ok hnow (by decide) fun w2 g2 v st2 hab hT => ?_
    have hv2 : hp w2 (w.heap.size + 1) = some (.cells #[.slice none 0 0, .slice none 0 0, .bool false, .int .u64 0] 45 (0, 0)) := by rw [st2.same _ hvlt hvo]; exact hv
    exact Rthrough (st1.trans st2) hT st1.size (by omega) hvlt (st2.own _ hvlt hvo) hv2 rfl fun w' k1 k2 => h w' g2 v k1 hab k2
end Go.Proofs.Ytpdcllhmbjnooaa
