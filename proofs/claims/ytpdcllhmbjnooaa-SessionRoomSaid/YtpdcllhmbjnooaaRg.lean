/- The reference's hub: a message on a new connection. -/
import Derived.Test.YtpdcllhmbjnooaaRe
namespace Go.Proofs.Ytpdcllhmbjnooaa
open Go.Dc
set_option maxRecDepth 10000

theorem Rthrough {w0 w2 : World} {g g2 : Rh} {vb base : Nat} {v : Value} {t : MT} {K : Cont} {c : Array Value} (hst : RStep w0 g w2 g2) (hT : TurnRep w2 g2.own base v t) (hb : w0.heap.size ≤ base) (h1 : w0.heap.size ≤ vb) (h2 : vb < base) (hvo : g2.own vb = .none) (hv : hp w2 vb = some (.cells c 45 (0, 0))) (hc : c.size = 4)
    (h : ∀ w', RStep w0 g w' g2 → TurnRep w' g2.own w0.heap.size v t → K v w') : st 45 (pt vb 0) v (fun _ => (fun w' => ldq 45 (pt vb 0) (fun x => K x w') w')) w2 := by
  obtain ⟨vo, vs, rfl, h3, h4⟩ := hT.at_
  have hlt := lt_of_hp hv
  simp [hv, hc, h3.one, h4.one, hlt]
  have e : Ext [vb] w2 (put w2 vb (.cells #[vo, vs, .bool t.do_, .int .u64 t.tok] 45 (0, 0))) := Ext.put (Ext.refl _ _) (.inl (by simp))
  refine h _ (RStep.around (S := [vb]) (Ext.refl _ _) hst e (by simp; exact ⟨h1, hvo⟩)) ((hT.ext e (by simp; omega)).base hb)

@[simp high] theorem bd_Wel (a b c : Int) (k : Cont) (w : World) : bd 37 #[(0, .int .u8 2), (2, .int .u32 a), (3, .int .u64 b), (5, .int .u32 c)] k w = k (.agg (mWel a b c)) w := bd_api_Message_0_2_3_5 2 a b c k w

/-- A cell is written; the world behind has a name. -/
theorem st_at {t b i : Nat} {v : Value} {K : Cont} {w w' : World} {c : Array Value} {T : TypeId} (ht : (pg.info? t).map (·.size) = some 1) (h1 : v.oneCell' = true) (h : hp w b = some (.cells c T (0, 0))) (hi : i < c.size)
    (hw : w' = put w b (.cells (c.setIfInBounds i v) T (0, 0))) (hk : K undef w') : st t (pt b i) v K w := by
  rw [st_scalar ht b i v K w, h1, ifK_true, h, objK_some (by omega), arrK_eq, ← hw]
  exact hk

/-- A session is new. -/
def Rh.newR (g : Rh) (n : Int) (c : Nat) : Rs := ⟨g.last, c, .slice none 0 0, [], 0, sizeOfWin g.size, 0, true, n, 0⟩

theorem sizeOfWin_b (n : Int) : 1 ≤ sizeOfWin n ∧ sizeOfWin n ≤ 8 := by unfold sizeOfWin; omega

theorem RRep.setLast {w : World} {g : Rh} (h : RRep w g) {l : Nat} (hl : l < 18446744073709551616) : RRep (put w g.blk (.cells ({ g with last := l } : Rh).cells 75 (0, 0))) { g with last := l } :=
  h.hub (g' := { g with last := l }) rfl (fun _ _ => rfl) h.lt h.vc h.vl h.sess h.o1 h.o2 h.caps h.away hl h.ndS

theorem fresh_j12_spec {w0 w : World} {g0 g : Rh} {n : Int} {c sb vb : Nat} {Q : Cont} (st0 : RStep w0 g0 w g) (hl8 : g.sess.length ≤ 7) (hc : c < 4294967296) (htok : ∀ s ∈ g.sess, s.tok ≠ g.last)
    (hs : hp w sb = some (.cells (g.newR n c).cells.toArray 116 (0, 0))) (hso : g.own sb = .none) (hv : hp w vb = some (.cells #[.slice none 0 0, .slice none 0 0, .bool false, .int .u64 0] 45 (0, 0))) (hvo : g.own vb = .none) (h0v : w0.heap.size ≤ vb)
    (h : ∀ w' g' v, RStep w0 g0 w' g' → g'.abs = { g.abs with sess := g.abs.sess ++ [(g.newR n c).abs] } → TurnRep w' g'.own w0.heap.size v ⟨[mWel c g.last (sizeOfWin g.size)], [], false, 0⟩ → Q v w') :
    lodestarref18_Hub_fresh_j12 Q (pt g.blk 0) (pt vb 0) (pt sb 0) w := by
  have hr := st0.rep
  have hat := hr.at_
  have hblt := lt_of_hp hat
  have hslt := lt_of_hp hs
  have hvlt := lt_of_hp hv
  have hsz := sizeOfWin_b g.size
  unfold Rh.cells at hat
  unfold lodestarref18_Hub_fresh_j12
  have hrow : rowOf (some (Obj.cells (g.newR n c).cells.toArray 116 (0, 0))) 0 10 = some (.agg (g.newR n c).cells.toArray) := rowOf_whole _ _ _ _ rfl
  simp [hat, hs, hrow]
  rw [bs_rs]
  simp [hat, Nat.ne_of_lt hblt, Nat.ne_of_lt hslt, hs, hrow]
  obtain ⟨w1, hw1⟩ : ∃ w1, w1 = (drw w).alloc (.cells (g.newR n c).cells.toArray 116) := ⟨_, rfl⟩
  rw [← hw1]
  have x1 : Ext [] w w1 := by rw [hw1]; exact ((Ext.refl _ _).drw).alloc
  have hm1 : hp w1 w.heap.size = some (.cells (g.newR n c).cells.toArray 116 (0, 0)) := by rw [hw1]; simp
  have hs1 : w1.heap.size = w.heap.size + 1 := by rw [hw1]; simp
  clear hw1
  have st1 := st0.trans (RStep.idle hr x1)
  have hr1 := st1.rep
  have hone : ∀ u ∈ (g.newR n c).cells.toArray, u.oneCell' = true := by
    intro u hu
    simp [Rs.cells, Rh.newR] at hu
    rcases hu with rfl | rfl | rfl | rfl | rfl | rfl | rfl | rfl | rfl | rfl <;> rfl
  refine append_spec (base := 0) (t := 73) (e := 116) (z := .agg #[.int .u64 0, .int .u32 0, .slice none 0 0, .int .i64 0, .int .i64 0, .int .i64 0, .int .i64 0, .bool false, .int .i64 0, .int .u32 0]) (sz := 10) (bytes := 96) (by kernel_rfl) (by kernel_rfl) rfl (by decide) hr1.vl (g := w.heap.size) (m := 1) (cs := (g.newR n c).cells.toArray) (T := 116) (fr := (0, 0)) hm1 (by rfl) hone
    (by unfold maxLen; omega) (by omega) (Nat.zero_le _) fun v' w2 x2 hv2 hv3 hob => ?_
  have hr2 := hr1.extL x2 hv3
  have hob' : ∀ b ∈ ob v', g.own b = .none ∨ g.own b = .hub 2 := by
    intro b hb
    rcases hob with e | e
    · rw [e] at hb; exact .inr (hr.o2 b hb)
    · rw [e] at hb; simp at hb; rw [hb]; exact .inl (hr1.fresh (Nat.le_refl _))
  have hvn : Vec w2 0 116 10 v' (g.sess ++ [g.newR n c]).length (flatL Rs.cells (g.sess ++ [g.newR n c])) := by
    rw [flatL_append, flatL_one, List.length_append]
    simpa using hv2
  have hnew : RsRep w2 g.own (g.newR n c) := ⟨Vec.nil w2 0 37 28, by simp [Rh.newR, ob], by simp [Rh.newR], by simp [Rh.newR], by simp [Rh.newR], by simp [Rh.newR], hsz.1, hsz.2, hc, by simp [Rh.newR]⟩
  have hr3 := hr2.withS hvn hob' (fun s hs => by
    rcases List.mem_append.1 hs with hs | hs
    · exact hr2.sess s hs
    · simp at hs; rw [hs]; exact hnew) (by
    rw [List.map_append, List.nodup_append]
    refine ⟨hr.ndS, by simp, fun a ha b hb => ?_⟩
    obtain ⟨s, hs, rfl⟩ := List.mem_map.1 ha
    simp at hb
    rw [hb]
    exact htok s hs)
  have hat2 := hr2.at_
  unfold Rh.cells at hat2
  have hvone : v'.oneCell' = true := by obtain ⟨a, c, rfl⟩ := hv2.len; rfl
  obtain ⟨g3, hg3⟩ : ∃ g3, g3 = g.withS v' (g.sess ++ [g.newR n c]) := ⟨_, rfl⟩
  obtain ⟨w3, hw3⟩ : ∃ w3, w3 = put w2 g.blk (.cells (g.withS v' (g.sess ++ [g.newR n c])).cells 75 (0, 0)) := ⟨_, rfl⟩
  rw [ncq_pt, faq_lodestarref18_Hub_L]
  refine st_at (w' := w3) (by kernel_rfl) hvone hat2 (by simp) hw3 ?_
  rw [← hw3, ← hg3] at hr3
  have x3 : Ext [g.blk] w2 w3 := by rw [hw3]; exact Ext.put (Ext.refl _ _) (.inl (by simp))
  have hs1' : hp w1 sb = some (.cells (g.newR n c).cells.toArray 116 (0, 0)) := by rw [x1.same sb hslt (by simp)]; exact hs
  have hs2 : hp w2 sb = some (.cells (g.newR n c).cells.toArray 116 (0, 0)) := x2.at hs1' (fun hb => by rw [hr.o2 sb hb] at hso; cases hso)
  have hs3 : hp w3 sb = some (.cells (g.newR n c).cells.toArray 116 (0, 0)) := x3.at hs2 (by simp; intro e; rw [e, hr.o0] at hso; cases hso)
  have hv1' := (x1.same vb hvlt (by simp)).trans hv
  have hv2' := x2.at hv1' (fun hb => by rw [hr.o2 vb hb] at hvo; cases hvo)
  have hv3' := x3.at hv2' (by simp; intro e; rw [e, hr.o0] at hvo; cases hvo)
  have st3 : RStep w1 g w3 g3 := RStep.of (((x2.mono (T := ob g.vl ++ [g.blk]) (fun b hb => List.mem_append_left _ hb))).trans x3 (fun b hb => .inl (List.mem_append_right _ hb)))
    (fun b hb _ => by
      rcases List.mem_append.1 hb with hb | hb
      · rw [hr.o2 b hb]; simp
      · simp at hb; rw [hb, hr.o0]; simp)
    (fun b hb hn => by
      rw [hg3]
      show ownV g.own v' (.hub 2) b = _
      unfold ownV
      rw [if_neg]
      · exact hn
      · intro hbv
        rcases hob with e | e
        · rw [e] at hbv; rw [hr.o2 b hbv] at hn; cases hn
        · rw [e] at hbv; simp at hbv; omega) (by rw [hg3]; rfl) hr3 (fun hz x hx hh => by
      rw [hg3] at hx
      rcases List.mem_append.1 hx with hx | hx
      · exact hz x hx hh
      · simp at hx; rw [hx] at hh; cases hh)
  have st03 : RStep w0 g0 w3 g3 := st1.trans st3
  have hs3' : hp w3 sb = some (.cells #[.int .u64 g.last, .int .u32 c, .slice none 0 0, .int .i64 0, .int .i64 (sizeOfWin g.size), .int .i64 0, .int .i64 0, .bool true, .int .i64 n, .int .u32 0] 116 (0, 0)) := hs3
  simp [hs3', -bs_s_api_Message_1_0]
  rw [wrap_u32 _ (by omega) (by omega), bs_msg1 (mWel_ok _ _ _).size]
  simp [-st_api_Turn]
  have st4 := st03.trans (RStep.idle hr3 (Ext.alloc (o := .cells (mWel (c : Int) (g.last : Int) (sizeOfWin g.size : Int)) 37) (Ext.refl [] w3)))
  have hvlt3 := lt_of_hp hv3'
  refine Rthrough st4 (TurnRep.msg1 (mWel_ok _ _ _) (hr3.fresh (Nat.le_refl _))) st03.size h0v hvlt3 ?_ (by rw [hp_alloc, if_neg (Nat.ne_of_lt hvlt3)]; exact hv3') rfl fun w' k1 k2 => h w' g3 _ k1 ?_ k2
  · exact st3.own vb (by omega) hvo
  · rw [hg3]
    unfold Rh.withS Rh.abs
    simp

def MH.fresh (m : MH) (n : Int) (now : Nat) (f : MF) : MH × MT :=
  if f.kind = 1 then m.hello n now f else if f.kind = 3 then m.resume n now f else (m.close n now, shutT n 6 180)

theorem fresh_hello {w0 w : World} {g : Rh} {n : Int} {now xb vb : Nat} {m : Msg} {f : MF} {Q : Cont} (st0 : RStep w0 g w g) (ok : g.abs.Ok) (hnow : now < 4294967296) (hm : MsgF m f) (hlast : g.last + 1 < 18446744073709551616) (htok : ∀ s ∈ g.sess, s.tok ≤ g.last)
    (hx : hp w xb = some (.cells m 37 (0, 0))) (hxo : g.own xb = .none) (hv : hp w vb = some (.cells #[.slice none 0 0, .slice none 0 0, .bool false, .int .u64 0] 45 (0, 0))) (hvo : g.own vb = .none) (h0v : w0.heap.size ≤ vb)
    (h : ∀ w' g' v, RStep w0 g w' g' → g'.abs = (g.abs.hello n now f).1 → TurnRep w' g'.own w0.heap.size v (g.abs.hello n now f).2 → Q v w') :
    lodestarref18_Hub_fresh_c0 Q (pt g.blk 0) (I n) (.int .u32 now) (pt xb 0) (pt vb 0) w := by
  have hr := st0.rep
  have hat := hr.at_
  unfold Rh.cells at hat
  have hvlt := lt_of_hp hv
  have hs8 : g.sess.length ≤ 8 := by have := ok.ls; unfold Rh.abs at this; simpa using this
  have ex : ∀ (w1 : World) (code : Nat), Ext [] w w1 → code < 256 → g.abs.hello n now f = (g.abs.close n now, shutT n 5 code) →
      Ret pg n_lodestarref18_Hub_shut #[pt g.blk 0, I n, .int .u32 now, .int .u8 5, .int .i64 code] (fun v157 => st 45 (pt vb 0) v157 fun _ => (fun w => ldq 45 (pt vb 0) (fun v158 => Q v158 w) w)) w1 := by
    intro w1 code x1 hcode he
    have st1 := st0.trans (RStep.idle hr x1)
    refine Rshut_spec (kind := 5) st1.rep ok hnow hcode fun w2 g2 v st2 hab hT => ?_
    rw [he] at h
    have hvo2 := st2.own vb (Nat.lt_of_lt_of_le hvlt x1.size) hvo
    have hv2 : hp w2 vb = some (.cells #[.slice none 0 0, .slice none 0 0, .bool false, .int .u64 0] 45 (0, 0)) := by
      rw [st2.same vb (Nat.lt_of_lt_of_le hvlt x1.size) hvo, x1.same vb hvlt (by simp)]; exact hv
    exact Rthrough (st1.trans st2) hT st1.size h0v (Nat.lt_of_lt_of_le hvlt x1.size) hvo2 hv2 rfl fun w' k1 k2 => h w' g2 v k1 hab k2
  unfold lodestarref18_Hub_fresh_c0
  simp [hat, hx, hm.k2]
  have hcap := hr.caps
  have e4 : andI .u32 (g.caps : Int) (f.caps : Int) = ((g.caps &&& f.caps : Nat) : Int) := andI_u32 _ _ hcap hm.b2
  rw [e4]
  have hA : g.abs.caps &&& f.caps = g.caps &&& f.caps := rfl
  have hS : g.abs.sess.length = g.sess.length := by unfold Rh.abs; simp
  by_cases hz : g.caps &&& f.caps = 0
  · rw [ifB_pos (by simp; exact_mod_cast hz)]
    exact ex _ 181 ((Ext.refl _ _).drw) (by decide) (by unfold MH.hello; rw [hA, if_pos hz])
  rw [ifB_neg (by simp; exact_mod_cast hz)]
  unfold lodestarref18_Hub_fresh_j9
  simp [hat]
  rw [Vec.len73 hr.vl]
  simp
  by_cases h8 : 8 ≤ g.sess.length
  · rw [ifB_pos (by simp; omega)]
    exact ex _ 4 ((Ext.refl _ _).drw) (by decide) (by unfold MH.hello; rw [hA, hS, if_neg hz, if_pos h8])
  rw [ifB_neg (by simp; omega)]
  have hmod : g.abs.hello n now f = ({ g.abs with last := g.abs.last + 1, sess := g.abs.sess ++ [g.abs.newS n f] }, ⟨[mWel (g.abs.caps &&& f.caps : Nat) (g.abs.last + 1 : Nat) (sizeOfWin g.abs.size)], [], false, 0⟩) := by
    unfold MH.hello
    rw [hA, hS, if_neg hz, if_neg h8]
  rw [hmod] at h
  unfold lodestarref18_Hub_fresh_j10
  have hr1 := hr.drw
  have hat1 := hr1.at_
  unfold Rh.cells at hat1
  simp only [nc_pt, fa_lodestarref18_Hub_Last, Nat.zero_add, ld_uint64, hat1, cellOf_some, bo_add, List.getElem?_toArray, List.getElem?_cons_succ, List.getElem?_cons_zero, optK_some]
  rw [wrap_u64 _ (by omega) (by omega)]
  have hlt2 : g.last + 1 < 18446744073709551616 := hlast
  obtain ⟨w2, hw2⟩ : ∃ w2, w2 = put (drw w) g.blk (.cells ({ g with last := g.last + 1 } : Rh).cells 75 (0, 0)) := ⟨_, rfl⟩
  refine st_at (w' := w2) (by kernel_rfl) rfl hat1 (by simp) hw2 ?_
  have hr2 : RRep w2 { g with last := g.last + 1 } := by rw [hw2]; exact hr1.setLast hlt2
  have x2 : Ext [g.blk] w w2 := by rw [hw2]; exact ((Ext.refl _ _).drw).put (.inl (by simp))
  clear hw2
  obtain ⟨g2, hg2⟩ : ∃ g2 : Rh, g2 = { g with last := g.last + 1 } := ⟨_, rfl⟩
  have e_blk : g2.blk = g.blk := by rw [hg2]
  have e_own : g2.own = g.own := by rw [hg2]
  have e_last : g2.last = g.last + 1 := by rw [hg2]
  have e_sess : g2.sess = g.sess := by rw [hg2]
  have e_caps : g2.caps = g.caps := by rw [hg2]
  have e_size : g2.size = g.size := by rw [hg2]
  have e_abs : g2.abs = { g.abs with last := g.last + 1 } := by rw [hg2]; rfl
  rw [← hg2] at hr2
  have st2 : RStep w0 g w2 g2 := st0.trans (RStep.of x2 (by intro b hb _; simp at hb; rw [hb, hr.o0]; simp) (fun b _ hn => by rw [e_own]; exact hn) e_blk hr2 (fun hz x hx => hz x (by rw [← e_sess]; exact hx)))
  have hx2 := x2.at hx (by simp; intro e; rw [e, hr.o0] at hxo; cases hxo)
  have hv2 := x2.at hv (by simp; intro e; rw [e, hr.o0] at hvo; cases hvo)
  rw [← e_blk]
  have fin : ∀ w3 sb, Ext [] w2 w3 → hp w3 sb = some (.cells (g2.newR n (g.caps &&& f.caps)).cells.toArray 116 (0, 0)) → g.own sb = .none → lodestarref18_Hub_fresh_j12 Q (pt g2.blk 0) (pt vb 0) (pt sb 0) w3 := by
    intro w3 sb x3 hsb hso
    refine fresh_j12_spec (n := n) (c := g.caps &&& f.caps) (st2.trans (RStep.idle hr2 x3)) (by rw [e_sess]; omega) (Nat.lt_of_le_of_lt Nat.and_le_left hcap) (fun s hs => by rw [e_sess] at hs; rw [e_last]; have := htok s hs; omega) hsb (by rw [e_own]; exact hso)
      ((x3.same vb (lt_of_hp hv2) (by simp)).trans hv2) (by rw [e_own]; exact hvo) h0v fun w' g' v k1 k2 k3 => ?_
    refine h w' g' v k1 ?_ ?_
    · rw [k2, e_abs]
      simp only
      congr 2
      unfold Rh.newR Rs.abs MH.newS
      simp only [e_last, e_size]
      have hsz := sizeOfWin_b g.size
      simp
      refine ⟨rfl, rfl, rfl, ?_⟩
      show min (sizeOfWin g.size) 1073741824 = sizeOfWin g.size
      omega
    · rw [e_last, e_size] at k3
      exact k3
  have hat2 := hr2.at_
  unfold Rh.cells at hat2
  rw [e_last, e_caps, e_size] at hat2
  have hbl := lt_of_hp hat2
  have hxl := lt_of_hp hx2
  have e4' : andI .u32 (g.caps : Int) (f.caps : Int) = ((g.caps &&& f.caps : Nat) : Int) := e4
  unfold lodestarref18_Hub_fresh_j11
  simp [hat2, hx2, hm.k2]
  rw [e4']
  have n1 := Nat.ne_of_lt hbl
  have n2 := Nat.ne_of_lt hxl
  have n3 : ¬ g2.blk = w2.heap.size + 1 := by omega
  have n4 : ¬ xb = w2.heap.size + 1 := by omega
  have hcells : (g2.newR n (g.caps &&& f.caps)).cells.toArray = #[.int .u64 ((g.last : Int) + 1), .int .u32 (g.caps &&& f.caps : Nat), .slice none 0 0, .int .i64 0, .int .i64 (sizeOfWin g.size), .int .i64 0, .int .i64 0, .bool true, .int .i64 n, .int .u32 0] := by
    unfold Rh.newR Rs.cells
    rw [e_last, e_size]
    rfl
  rw [hcells] at fin
  refine ⟨?_, ?_⟩
  · refine RNew_spec ?_
    simp [hat2, hx2, hm.k2, n1, n2, n3, n4, e4']
    exact fin _ (w2.heap.size + 1) (((((Ext.refl _ _).drw).alloc).alloc).put (.inr (by omega))) (by simp) (by rw [← e_own]; exact hr2.fresh (by omega))
  · simp [hat2, hx2, hm.k2, n1, n2, n3, n4, e4']
    refine RNew_spec ?_
    simp [hat2, hx2, hm.k2, n1, n2, n3, n4, e4']
    exact fin _ w2.heap.size (((((Ext.refl _ _).drw).alloc).alloc).put (.inr (by omega))) (by simp; omega) (by rw [← e_own]; exact hr2.fresh (by omega))
end Go.Proofs.Ytpdcllhmbjnooaa
