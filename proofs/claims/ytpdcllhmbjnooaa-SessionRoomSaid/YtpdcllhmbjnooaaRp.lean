/- The two hubs are the same. -/
import Derived.Test.YtpdcllhmbjnooaaRo
namespace Go.Proofs.Ytpdcllhmbjnooaa
open Go.Dc
set_option maxRecDepth 10000

@[simp high] theorem bdq_msg (k : Value → Prop) (w : World) : bdq 37 #[] k w = k (.agg zMsg) := bd_api_Message_q k w
theorem zMsgF : MsgF zMsg ⟨0, 0, 0, 0, 0⟩ := ⟨zMsg_ok, rfl, rfl, rfl, rfl, rfl, by decide, by decide, by decide, by decide, by decide⟩

theorem Vec.len43q {w : World} {base : Nat} {e sz : Nat} {v : Value} {n : Nat} {xs : List Value} (h : Vec w base e sz v n xs) (k : Value → Prop) (w1 : World) : b_lenq #[43] 3 #[v] k w1 = k (I n) := by
  obtain ⟨a, c, rfl⟩ := h.len; simp
theorem Vec.len73q {w : World} {base : Nat} {e sz : Nat} {v : Value} {n : Nat} {xs : List Value} (h : Vec w base e sz v n xs) (k : Value → Prop) (w1 : World) : b_lenq #[73] 3 #[v] k w1 = k (I n) := by
  obtain ⟨a, c, rfl⟩ := h.len; simp

theorem BI.nofind {w : World} {x : Bo} {k : Nat} (hi : BI w x k) : x.gh.abs.find (x.gr.last + 1) = none := by
  rw [← hi.sim]
  refine rfind_none fun s hs => ?_
  have := hi.rtok s hs
  simp
  omega

theorem same_j2 {w : World} {x : Bo} {k : Nat} {Q : Cont} (hi : BI w x k) (hk : k ≤ 1000) (h : ∀ w' x', BI w' x' k → BStep w x w' x' → x'.gh.abs = x.gh.abs → Q (.bool true) w') : lodestarlaw18_Both_same_j2 Q (pt x.blk 0) w := by
  have hat := hi.bp.at_
  have hgt := hi.bp.rr.at_
  unfold Rh.cells at hgt
  have hnf := hi.nofind
  have hl := hi.rlast (by omega)
  have w1 : IntKind.wrap .u64 ((x.gr.last : Int) + 1) = ((x.gr.last + 1 : Nat) : Int) := by rw [wrap_u64 _ (by omega) (by omega)]; rfl
  unfold lodestarlaw18_Both_same_j2
  simp [hat, hgt]
  rw [w1]
  have xd : Ext [] w (drw w) := (Ext.refl _ _).drw
  have hi0 := hi.ext xd (by simp)
  have hc : x.gh.abs.conn (x.gr.last + 1) = (0, false) := by unfold MH.conn; rw [hnf]
  refine Conn_spec hi0.bp.hub hi0.bp.wf ?_
  rw [hc]
  simp [hat, hgt]
  rw [w1]
  have xe : Ext [] w (drw (drw w)) := xd.drw
  have hi1 := hi.ext xe (by simp)
  refine Told_spec hi1.bp.hub hi1.bp.wf zMsgF fun w2 g2 st2 ha2 => ?_
  have ht : x.gh.abs.told (x.gr.last + 1) 0 zMsg = (x.gh.abs, 182) := by unfold MH.told; rw [hnf]
  obtain ⟨p2, s2⟩ := hi1.bp.hstep st2
  simp only [ht] at ha2 ⊢
  simp
  exact h w2 _ ⟨p2, by show x.gr.abs = g2.abs; rw [ha2]; exact hi.sim, hi.z, by show g2.abs.Lim k; rw [ha2]; exact hi.lim, hi.dn, hi.now⟩ ((BStep.idle x xe).trans s2) ha2

theorem Same_spec {w : World} {x : Bo} {k : Nat} {Q : Cont} (hi : BI w x k) (hk : k ≤ 1000) (h : ∀ w' x', BI w' x' k → BStep w x w' x' → x'.gh.abs = x.gh.abs → Q (.bool true) w') : Ret pg n_lodestarlaw18_Both_same #[pt x.blk 0] Q w := by
  apply lodestarlaw18_Both_same_ok
  unfold lodestarlaw18_Both_same lodestarlaw18_Both_same_j0
  have hat := hi.bp.at_
  have hgt := hi.bp.rr.at_
  unfold Rh.cells at hgt
  have xd : Ext [] w (drw w) := (Ext.refl _ _).drw
  have hi0 := hi.ext xd (by simp)
  have e1 : x.gh.abs.sess.length = x.gr.sess.length := by rw [← hi.sim]; simp [Rh.abs]
  have e2 : x.gh.abs.conns.length = x.gr.conns.length := by rw [← hi.sim]; simp [Rh.abs]
  simp [hat, hgt, Go.Proofs.Ytpdcllhmbjnooaa.Vec.len73q hi.bp.rr.vl]
  refine Sessions_spec hi0.bp.hub ?_
  simp [hat, hgt, Go.Proofs.Ytpdcllhmbjnooaa.Vec.len73q hi.bp.rr.vl, e1, Go.Proofs.Ytpdcllhmbjnooaa.Vec.len43q hi.bp.rr.vc]
  refine Conns_spec hi0.bp.hub ?_
  simp [hat, hgt, Go.Proofs.Ytpdcllhmbjnooaa.Vec.len43q hi.bp.rr.vc, e2]
  have s1 := BStep.idle x xd
  have hi1 := hi0
  generalize drw w = w1 at *
  unfold lodestarlaw18_Both_same_j8
  simp
  unfold lodestarlaw18_Both_same_j1 lodestarlaw18_Both_same_j3 lodestarlaw18_Both_same_l0
  refine loopW_intro (fun s w' => ∃ i : Nat, s = (pt x.blk 0, I i) ∧ i ≤ x.gr.sess.length ∧ Ext [] w1 w') (fun s _ => match s.2 with | .int _ i => x.gr.sess.length - i.toNat | _ => 0) ⟨0, rfl, Nat.zero_le _, Ext.refl _ _⟩ ?_
  rintro s w2 ⟨i, rfl, hi', x2⟩ next hnext
  have hi2 := hi1.ext x2 (by simp)
  have s2 := s1.trans (BStep.idle x x2)
  have hat2 := hi2.bp.at_
  have hgt2 := hi2.bp.rr.at_
  unfold Rh.cells at hgt2
  have r8 := hi2.r8
  unfold lodestarlaw18_Both_same_l0b
  simp [hat2, hgt2, Go.Proofs.Ytpdcllhmbjnooaa.Vec.len73 hi2.bp.rr.vl]
  by_cases hlt : i < x.gr.sess.length
  · rw [ifB_pos (by simpa using hlt)]
    obtain ⟨s, hk'⟩ : ∃ s, x.gr.sess[i]? = some s := ⟨_, List.getElem?_eq_getElem hlt⟩
    obtain ⟨L, cap, hL⟩ := hi2.bp.rr.lat (by intro e; rw [e] at hk'; simp at hk')
    have hvl := hL.vl
    have c0 := hL.cell i s hk' 0 _ rfl
    have c7 := hL.cell i s hk' 7 _ rfl
    have c8 := hL.cell i s hk' 8 _ rfl
    unfold lodestarlaw18_Both_same_j4
    simp only [Nat.add_zero] at c0
    simp [hat2, hgt2, hvl, hlt, c0]
    have xf : Ext [] w2 (drw w2) := (Ext.refl _ _).drw
    have hi3 := hi2.ext xf (by simp)
    have hcon : x.gh.abs.conn s.tok = (s.conn, s.has) := by
      rw [← hi.sim]
      unfold MH.conn
      rw [rfind_some hi.bp.rr.ndS hk' rfl]
      cases hh : s.has with
      | true => simp [Rs.abs, hh]
      | false => simp [Rs.abs, hh, hi.z s (List.mem_of_getElem? hk') hh]
    refine Conn_spec hi3.bp.hub hi3.bp.wf ?_
    rw [hcon]
    simp
    unfold lodestarlaw18_Both_same_j6
    simp [hat2, hgt2, hvl, hlt, c7]
    simp [hat2, hgt2, hvl, hlt, c8]
    unfold lodestarlaw18_Both_same_j7
    simp
    unfold lodestarlaw18_Both_same_j5
    simp
    rw [wr_i64 _ (by omega) (by omega)]
    exact hnext _ _ ⟨i + 1, rfl, by omega, x2.drw⟩ (by simp; omega)
  · rw [ifB_neg (by simpa using hlt)]
    exact same_j2 hi2 hk fun w' x' k1 k2 k3 => h w' x' k1 (s2.trans k2) k3
end Go.Proofs.Ytpdcllhmbjnooaa
