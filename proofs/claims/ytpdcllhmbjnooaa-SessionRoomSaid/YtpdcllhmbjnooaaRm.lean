/- An op on both hubs: opening, closing, a tick. -/
import Derived.Test.YtpdcllhmbjnooaaRl
namespace Go.Proofs.Ytpdcllhmbjnooaa
open Go.Dc
set_option maxRecDepth 10000

/-- The op in a variable. -/
structure OV (w : World) (x : Bo) (ob : Nat) (o : Array Value) : Prop where
  at_ : hp w ob = some (.cells o 66 (0, 0))
  fr : x.free ob
theorem OV.step {w w' : World} {x x' : Bo} {b : Nat} {o : Array Value} (h : OV w x b o) (st : BStep w x w' x') : OV w' x' b o :=
  ⟨by rw [st.same b (lt_of_hp h.at_) h.fr]; exact h.at_, st.keep b (lt_of_hp h.at_) h.fr⟩

/-- Two lists of numbers compared. -/
theorem Do_ticks {w : World} {va vb : Value} {b1 b2 : Nat} {l : List Nat} {Q : Cont} (ha : Vec w b1 23 1 va l.length (l.map fun n : Nat => eU n)) (hb : Vec w b2 23 1 vb l.length (l.map fun n : Nat => eU n)) (hl : l.length < 1000000)
    (h : ∀ w', Ext [] w w' → Q (.bool true) w') : lodestarlaw18_Both_Do_j19 Q va vb w := by
  unfold lodestarlaw18_Both_Do_j19
  obtain ⟨a1, c1, rfl⟩ := ha.len
  obtain ⟨a2, c2, rfl⟩ := hb.len
  simp
  unfold lodestarlaw18_Both_Do_j20 lodestarlaw18_Both_Do_j22 lodestarlaw18_Both_Do_l0
  refine loopW_intro (fun s w' => ∃ i : Nat, s = (.slice a1 l.length c1, .slice a2 l.length c2, I i) ∧ i ≤ l.length ∧ Ext [] w w') (fun s _ => match s.2.2 with | .int _ i => l.length - i.toNat | _ => 0) ⟨0, rfl, Nat.zero_le _, Ext.refl _ _⟩ ?_
  rintro s w1 ⟨i, rfl, hi, x1⟩ next hnext
  unfold lodestarlaw18_Both_Do_l0b
  simp
  by_cases hlt : i < l.length
  · rw [ifB_pos (by simpa using hlt)]
    have ha1 := ha.ext x1 (by simp)
    have hb1 := hb.ext x1 (by simp)
    obtain ⟨g1, k1, cur1, e1, q1, q2⟩ := ha1.get (i := i) (u := eU l[i]) (by simp [hlt])
    obtain ⟨g2, k2, cur2, e2, r1, r2⟩ := hb1.get (i := i) (u := eU l[i]) (by simp [hlt])
    injection e1 with e1 _ _
    injection e2 with e2 _ _
    subst e1 e2
    simp [hlt, q1, q2, r1, r2]
    rw [wr_i64 _ (by omega) (by omega)]
    exact hnext _ _ ⟨i + 1, rfl, by omega, x1.drw⟩ (by simp; omega)
  · rw [ifB_neg (by simpa using hlt)]
    unfold lodestarlaw18_Both_Do_j21
    exact h _ x1

theorem Do_j15_spec {w : World} {x : Bo} {b k kind num ahead : Nat} {conn : Int} {m : Msg} {f : MF} {tell : Bool} {o : Array Value} {Q : Cont} (hi : BI w x k) (hk : k ≤ 1000) (ho : OpF o kind conn m f num ahead tell) (hv : OV w x b o)
    (hmsg : ∀ w', BI w' x k → BStep w x w' x → OV w' x b o → lodestarlaw18_Both_Do_j2 Q (pt x.blk 0) (pt b 0) w')
    (h : ∀ w' x', BI w' x' (k + 2) → BStep w x w' x' → Q (.bool true) w') : lodestarlaw18_Both_Do_j1 Q (pt x.blk 0) (pt b 0) w := by
  have hkl : k ≤ k + 2 := by omega
  have hb0 := ho.b0
  have hat := hi.bp.at_
  have hov := hv.at_
  have hc1 := ho.c1
  unfold lodestarlaw18_Both_Do_j1
  simp [hov, ho.c0]
  have e7 : (kind : Int).tmod 7 = ((kind % 7 : Nat) : Int) := by rw [Int.tmod_eq_emod_of_nonneg (by omega)]; omega
  rw [e7]
  have x0 : Ext [] w (drw w) := (Ext.refl _ _).drw
  have hi0 := hi.ext x0 (by simp)
  unfold lodestarlaw18_Both_Do_j15
  simp only [bo_eql]
  unfold lodestarlaw18_Both_Do_j16
  simp only [iteW_bool]
  by_cases h0 : kind % 7 = 0
  · rw [ifB_pos (by simp; omega)]
    simp [hat, hov, hc1]
    refine Open_spec hi0.bp.hub hi0.bp.wf fun w1 g1 st1 ha1 => ?_
    obtain ⟨p1, s1⟩ := hi0.bp.hstep st1
    have hat1 := p1.at_
    simp only [st1.blk] at hat1
    have hov1 := (hv.step ((BStep.idle x x0).trans s1)).at_
    simp [hat1, hov1, hc1]
    refine ROpen_spec p1.rr (by have := hi.ok.lc; exact this) fun w2 g2 st2 ha2 => ?_
    have hs : g2.abs = g1.abs := by rw [ha1, ha2, hi.sim]
    obtain ⟨hi2, s2⟩ := hi0.both (l := k + 2) st1 st2 hs (by rw [ha1]; exact (hi.lim.open_ conn).mono hkl) hkl
    rw [hi.sim]
    simp
    exact h w2 _ hi2 ((BStep.idle x x0).trans s2)
  rw [ifB_neg (by simp; omega)]
  unfold lodestarlaw18_Both_Do_c0
  simp only [bo_eql]
  unfold lodestarlaw18_Both_Do_j17
  simp only [iteW_bool]
  by_cases h1 : kind % 7 = 1
  · rw [ifB_pos (by simp; omega)]
    simp [hat, hov, hc1]
    refine Close_spec hi0.bp.hub hi0.bp.wf hi.now fun w1 g1 st1 _ _ _ ha1 => ?_
    obtain ⟨p1, s1⟩ := hi0.bp.hstep st1
    have hat1 := p1.at_
    simp only [st1.blk] at hat1
    have hov1 := (hv.step ((BStep.idle x x0).trans s1)).at_
    simp [hat1, hov1, hc1]
    refine RClose_spec p1.rr hi.ok hi.now fun w2 g2 st2 ha2 _ => ?_
    have hs : g2.abs = g1.abs := by rw [ha1, ha2, hi.sim]
    obtain ⟨hi2, s2⟩ := hi0.both (l := k + 2) st1 st2 hs (by rw [ha1]; exact (hi.lim.close conn x.now).mono hkl) hkl
    rw [hi.sim]
    simp
    exact h w2 _ hi2 ((BStep.idle x x0).trans s2)
  rw [ifB_neg (by simp; omega)]
  unfold lodestarlaw18_Both_Do_c1
  simp only [bo_eql]
  unfold lodestarlaw18_Both_Do_j18
  simp only [iteW_bool]
  by_cases h6 : kind % 7 = 6
  · rw [ifB_pos (by simp; omega)]
    unfold lodestarlaw18_Both_Do_c2
    simp [hat]
    refine Tick_spec hi0.bp.hub hi0.bp.wf hi.now (by have := hi.last (by omega); omega) fun w1 g1 v1 st1 ha1 ho1 hv1 => ?_
    obtain ⟨p1, s1⟩ := hi0.bp.hstep st1
    have hat1 := p1.at_
    simp only [st1.blk] at hat1
    simp [hat1]
    refine RTick_spec p1.rr hi.r8 hi.now fun w2 g2 v2 st2 ha2 hv2 ho2 => ?_
    have hs : g2.abs = g1.abs := by rw [ha1, ha2, hi.sim]
    obtain ⟨hi2, s2⟩ := hi0.both (l := k + 2) st1 st2 hs (by rw [ha1]; exact (hi.lim.tick x.now).mono hkl) hkl
    rw [hi.sim] at hv2
    obtain ⟨_, s2'⟩ := p1.rstep st2
    have hv1' : Vec w2 w.heap.size 23 1 v1 (x.gh.abs.tickT x.now).length ((x.gh.abs.tickT x.now).map fun n : Nat => eU n) := by
      obtain ⟨S, e, hS⟩ := ext_of_same (P := fun b => x.gr.own b = .none) st2.os st2.tape st2.output st2.size st2.same
      refine Vec.ext hv1 e fun b hb hs => hS b hs ?_
      exact hi0.bp.rr.fresh (hv1.ob_ge b hb).1
    have hlen : (x.gh.abs.tickT x.now).length < 1000000 := by
      unfold MH.tickT
      rw [List.length_map]
      have h1 := List.length_filter_le (fun s => MS.gone s x.now x.gh.abs.away) x.gh.abs.sess
      have h2 := (ok_of_wf hi.bp.hub hi.bp.wf).ls
      omega
    refine Do_ticks hv1' hv2 hlen fun w3 x3 => ?_
    exact h w3 _ (hi2.ext x3 (by simp)) (((BStep.idle x x0).trans s2).trans (BStep.idle _ x3))
  · rw [ifB_neg (by simp; omega)]
    exact hmsg w hi (BStep.refl _ _) hv
end Go.Proofs.Ytpdcllhmbjnooaa
