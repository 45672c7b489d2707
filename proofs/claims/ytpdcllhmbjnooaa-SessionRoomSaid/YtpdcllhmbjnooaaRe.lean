/- The reference's hub: shutting, what is told, ticks. -/
import Derived.Test.YtpdcllhmbjnooaaRc
namespace Go.Proofs.Ytpdcllhmbjnooaa
open Go.Dc
set_option maxRecDepth 10000

theorem RStep.around {w w1 w2 w3 : World} {g g2 : Rh} {S : List Nat} (a : Ext [] w w1) (h : RStep w1 g w2 g2) (b : Ext S w2 w3) (hS : ∀ x ∈ S, w.heap.size ≤ x ∧ g2.own x = .none) : RStep w g w3 g2 :=
  ⟨b.os.trans (h.os.trans a.os), b.tape.trans (h.tape.trans a.tape), b.output.trans (h.output.trans a.output), Nat.le_trans a.size (Nat.le_trans h.size b.size),
    fun x hx hn => by
      have h1 : x < w1.heap.size := Nat.lt_of_lt_of_le hx a.size
      rw [b.same x (Nat.lt_of_lt_of_le h1 h.size) (fun hs => by have := (hS x hs).1; omega), h.same x h1 hn, a.same x hx (by simp)],
    fun x hx hn => h.own x (Nat.lt_of_lt_of_le hx a.size) hn, h.rep.ext b (fun x hx => (hS x hx).2), h.blk, h.z⟩

theorem Rshut_spec {w : World} {g : Rh} {n : Int} {now kind code : Nat} {Q : Cont} (hr : RRep w g) (ok : g.abs.Ok) (hn : now < 4294967296) (hcode : code < 256)
    (h : ∀ w' g' v, RStep w g w' g' → g'.abs = g.abs.close n now → TurnRep w' g'.own w.heap.size v (shutT n kind code) → Q v w') :
    Ret pg n_lodestarref18_Hub_shut #[pt g.blk 0, I n, .int .u32 now, .int .u8 kind, .int .i64 code] Q w := by
  apply lodestarref18_Hub_shut_ok
  unfold lodestarref18_Hub_shut
  simp
  have hr1 := hr.alloc (.cells #[.slice none 0 0, .slice none 0 0, .bool false, .int .u64 0] 45)
  refine RClose_spec hr1 ok hn fun w2 g2 hst hab _ => ?_
  have hvar : hp w2 w.heap.size = some (.cells #[.slice none 0 0, .slice none 0 0, .bool false, .int .u64 0] 45 (0, 0)) := by
    rw [hst.same _ (by simp) (hr.fresh (Nat.le_refl _))]; simp
  have hs2 := hst.size
  simp at hs2
  simp
  rw [wrap_u8 _ (by omega) (by omega)]
  simp
  rw [bs_msg1 (mKC_ok _ _).size]
  have n1 : ¬ w.heap.size = w2.heap.size + 1 := by omega
  have n2 : ¬ w.heap.size = w2.heap.size := by omega
  have n3 : w.heap.size < w2.heap.size + 1 + 1 := by omega
  simp [n1, n2, n3, hvar]
  have fresh : ∀ b, w2.heap.size ≤ b → g2.own b = .none := fun b hb => hst.rep.fresh hb
  have hown : g2.own w.heap.size = .none := hst.own _ (by simp) (hr.fresh (Nat.le_refl _))
  refine h _ g2 _ (RStep.around (S := [w.heap.size]) ((Ext.refl _ _).alloc) hst ((((Ext.refl _ _).alloc).alloc).put (.inl (by simp))) (by simpa using hown)) hab ⟨⟨_, _, rfl, .inr ⟨w2.heap.size, by omega, fresh _ (Nat.le_refl _), rfl, ?_⟩, .inr ⟨w2.heap.size + 1, by omega, fresh _ (by omega), rfl, ?_⟩⟩, ?_⟩
  · simp [flat, shutT, Ne.symm n2]
  · simp [shutT, Ne.symm n1]
  · intro m hm
    simp [shutT] at hm
    subst hm
    exact mKC_ok _ _

theorem rfind_some {g : Rh} {k tok : Nat} {s : Rs} (hn : (g.sess.map (·.tok)).Nodup) (hk : g.sess[k]? = some s) (ht : s.tok = tok) : g.abs.find tok = some s.abs := by
  unfold MH.find Rh.abs
  simp only
  have hm : s.abs ∈ g.sess.map Rs.abs := List.mem_map.2 ⟨s, List.mem_of_getElem? hk, rfl⟩
  cases hf : (g.sess.map Rs.abs).find? (fun x => x.tok == tok) with
  | none =>
    rw [List.find?_eq_none] at hf
    have := hf _ hm
    simp at this
    exact absurd ht this
  | some y =>
    have h1 := List.mem_of_find?_eq_some hf
    have h2 := List.find?_some hf
    simp only [beq_iff_eq] at h2
    obtain ⟨x, hx, rfl⟩ := List.mem_map.1 h1
    have h2' : x.tok = tok := h2
    rw [nodup_inj hn hx (List.mem_of_getElem? hk) (h2'.trans ht.symm)]
theorem rfind_none {g : Rh} {tok : Nat} (h : ∀ s ∈ g.sess, decide (s.tok = tok) = false) : g.abs.find tok = none := by
  unfold MH.find Rh.abs
  rw [List.find?_eq_none]
  intro x hx
  obtain ⟨s, hs, rfl⟩ := List.mem_map.1 hx
  have := h s hs
  simp at this ⊢
  exact this

theorem RTold_spec {w : World} {g : Rh} {tok : Nat} {m : Msg} {f : MF} {Q : Cont} (hr : RRep w g) (hl : g.sess.length ≤ 8) (hm : MsgF m f) (hlen : ∀ s ∈ g.sess, s.ans.length + 1 < 1073741824)
    (h : ∀ w' g', RStep w g w' g' → g'.abs = (g.abs.told tok f.req m).1 → Q (I (g.abs.told tok f.req m).2) w') : Ret pg n_lodestarref18_Hub_Told #[pt g.blk 0, .int .u64 tok, .agg m] Q w := by
  apply lodestarref18_Hub_Told_ok
  unfold lodestarref18_Hub_Told
  simp
  have hr1 := hr.alloc (.cells m 37)
  have x1 : Ext [] w (w.alloc (.cells m 37)) := (Ext.refl _ _).alloc
  refine At_spec hr1 hl ?_
  have hat := hr1.at_
  unfold Rh.cells at hat
  unfold MH.told at h
  rcases idx_cases (fun s => decide (s.tok = tok)) g.sess with ⟨k, s, hk, hpp, hidx, hkl⟩ | ⟨hidx, hnone⟩
  · rw [hidx]
    rw [rfind_some hr.ndS hk (by simpa using hpp)] at h
    simp only at h
    rw [bo_lss, iteW_bool, ifB_neg (by simp)]
    obtain ⟨L, cap, hL⟩ := hr1.lat (by intro e; rw [e] at hk; simp at hk)
    have hvl := hL.vl
    have hlt := lt_of_hp hr.at_
    have e1 : g.blk ≠ w.heap.size := by omega
    have hm1 : hp (w.alloc (.cells m 37)) w.heap.size = some (.cells m 37 (0, 0)) := by simp
    simp [hat, hvl, -hp_alloc]
    rw [ifK_pos (by simp; omega)]
    simp [hm1, hm.k1, rowOf_whole _ _ _ _ hm.ok.size, -hp_alloc]
    rw [wrap_i64 _ (by omega) (by have := hm.b1; omega)]
    have hLd : LAt (drw (w.alloc (.cells m 37))) g L cap := ⟨hL.vl, hL.cell, hL.row, hL.own⟩
    refine RKeep_spec hr1.drw hLd hk hm.b1 hm.ok (hlen s (List.mem_of_getElem? hk)) fun w' g' st hab => ?_
    exact h w' g' ((RStep.idle hr x1.drw).trans st) hab
  · rw [hidx]
    rw [rfind_none hnone] at h
    simp
    exact h _ g (RStep.idle hr x1) rfl

/-! ### Ticks -/

def Rs.gone (s : Rs) (now away : Nat) : Bool := !s.has && decide (s.since + away < now)
theorem rgone_abs (s : Rs) (now away : Nat) : s.abs.gone now away = s.gone now away := by
  unfold MS.gone Rs.gone Rs.abs
  cases hh : s.has
  · simp
    rw [Bool.eq_iff_iff]
    simp
    omega
  · simp

/-- The sessions are others, in a list of their own. -/
def Rh.withS (g : Rh) (v : Value) (l : List Rs) : Rh := { g with vl := v, sess := l, own := ownV g.own v (.hub 2) }
theorem RRep.withS {w : World} {g : Rh} (h : RRep w g) {v : Value} {l : List Rs} (hv : Vec w 0 116 10 v l.length (flatL Rs.cells l)) (ho : ∀ b ∈ ob v, g.own b = .none ∨ g.own b = .hub 2) (hs : ∀ s ∈ l, RsRep w g.own s) (hn : (l.map (·.tok)).Nodup) :
    RRep (put w g.blk (.cells (g.withS v l).cells 75 (0, 0))) (g.withS v l) := by
  have e1 : ∀ b, g.own b ≠ .none → ownV g.own v (.hub 2) b = g.own b := fun b hb => ownV_old ho hb
  refine h.hub (g' := g.withS v l) rfl e1 (fun b hb => ownV_lt (fun b hb => (hv.ob_ge b hb).2) h.lt hb) h.vc hv ?_ ?_ (fun b hb => ownV_in hb) h.caps h.away h.last hn
  · intro s hs'
    refine { hs s hs' with own := fun b hb => ?_ }
    have := (hs s hs').own b hb
    show ownV g.own v (.hub 2) b = _
    rw [e1 b (by rw [this]; simp)]
    exact this
  · intro b hb
    have := h.o1 b hb
    show ownV g.own v (.hub 2) b = _
    rw [e1 b (by rw [this]; simp)]
    exact this

theorem bs_rs (s : Rs) (k : Cont) (w : World) : bs 73 1 #[(0, .agg s.cells.toArray)] k w = natK (fun n => k (.slice (some ⟨n, 0, none⟩) 1 1) (w.alloc (.cells s.cells.toArray 116))) w.heap.size := bs_s_lodestarref18_Session_1_0 _ _ _ _ _ _ _ _ _ _ k w

theorem RTick_spec {w : World} {g : Rh} {now : Nat} {Q : Cont} (hr : RRep w g) (hl8 : g.sess.length ≤ 8) (hn : now < 4294967296)
    (h : ∀ w' g' v, RStep w g w' g' → g'.abs = g.abs.tick now → Vec w' w.heap.size 23 1 v (g.abs.tickT now).length ((g.abs.tickT now).map fun n : Nat => eU n) → (∀ b ∈ ob v, g'.own b = .none) → Q v w') :
    Ret pg n_lodestarref18_Hub_Tick #[pt g.blk 0, .int .u32 now] Q w := by
  apply lodestarref18_Hub_Tick_ok
  unfold lodestarref18_Hub_Tick lodestarref18_Hub_Tick_j0 lodestarref18_Hub_Tick_j1 lodestarref18_Hub_Tick_j2 lodestarref18_Hub_Tick_j4 lodestarref18_Hub_Tick_l0
  let P : Rs → Bool := fun s => s.gone now g.away
  have haw := hr.away
  have ht1 : (g.sess.filter P).map Rs.tok = g.abs.tickT now := by
    unfold MH.tickT Rh.abs
    simp only [List.filter_map, List.map_map]
    congr 1
    apply List.filter_congr
    intro s _
    simp [P, rgone_abs]
  have ht2 : (g.sess.filter fun s => !P s).map Rs.abs = (g.abs.tick now).sess := by
    unfold MH.tick Rh.abs
    simp only [List.filter_map]
    congr 1
    apply List.filter_congr
    intro s _
    simp [P, rgone_abs]
  refine loopW_intro (fun s w' => ∃ (i : Nat) (va vb : Value), s = (pt g.blk 0, .int .u32 now, va, vb, I i) ∧ i ≤ g.sess.length ∧ RStep w g w' g ∧
      Vec w' w.heap.size 23 1 va ((g.sess.take i).filter P).length (((g.sess.take i).filter P).map fun s => eU s.tok) ∧ Vec w' w.heap.size 116 10 vb ((g.sess.take i).filter fun s => !P s).length (flatL Rs.cells ((g.sess.take i).filter fun s => !P s)) ∧
      (∀ b ∈ ob va, g.own b = .none) ∧ (∀ b ∈ ob vb, g.own b = .none) ∧ (∀ b ∈ ob va, b ∉ ob vb))
    (fun s _ => match s.2.2.2.2 with | .int _ i => g.sess.length - i.toNat | _ => 0)
    ⟨0, _, _, rfl, Nat.zero_le _, RStep.refl hr, by simpa using Vec.nil w w.heap.size 23 1, by simpa [flatL] using Vec.nil w w.heap.size 116 10, by simp [ob], by simp [ob], by simp [ob]⟩ ?_
  rintro s w1 ⟨i, va, vb, rfl, hi, st1, hva, hvb, hoa, hob, hd⟩ next hnext
  have hr1 := st1.rep
  have hat := hr1.at_
  unfold Rh.cells at hat
  unfold lodestarref18_Hub_Tick_l0b
  simp [hat]
  rw [Vec.len73 hr1.vl]
  simp
  by_cases hlt : i < g.sess.length
  · rw [ifB_pos (by simpa using hlt)]
    have nx : ∀ w2 va2 vb2, RStep w g w2 g → Vec w2 w.heap.size 23 1 va2 ((g.sess.take (i + 1)).filter P).length (((g.sess.take (i + 1)).filter P).map fun s => eU s.tok) →
        Vec w2 w.heap.size 116 10 vb2 ((g.sess.take (i + 1)).filter fun s => !P s).length (flatL Rs.cells ((g.sess.take (i + 1)).filter fun s => !P s)) →
        (∀ b ∈ ob va2, g.own b = .none) → (∀ b ∈ ob vb2, g.own b = .none) → (∀ b ∈ ob va2, b ∉ ob vb2) →
        lodestarref18_Hub_Tick_j6 Q (fun x0 x1 x2 x3 x4 => next (x0, x1, x2, x3, x4)) (pt g.blk 0) (.int .u32 now) va2 vb2 (I i) w2 := by
      intro w2 va2 vb2 st2 h1 h2 h3 h4 h5
      unfold lodestarref18_Hub_Tick_j6
      simp
      rw [wr_i64 _ (by omega) (by omega)]
      exact hnext _ _ ⟨i + 1, va2, vb2, rfl, by omega, st2, h1, h2, h3, h4, h5⟩ (by simp; omega)
    have htk : g.sess.take (i + 1) = g.sess.take i ++ [g.sess[i]] := by rw [List.take_add_one, List.getElem?_eq_getElem hlt]; rfl
    rw [htk, List.filter_append, List.filter_append] at nx
    obtain ⟨L, cap, hL⟩ := hr1.lat (by intro e; rw [e] at hlt; simp at hlt)
    have hg := List.getElem?_eq_getElem hlt
    have hvl := hL.vl
    have c0 := hL.cell i _ hg 0 _ rfl
    have c7 := hL.cell i _ hg 7 _ rfl
    have c9 := hL.cell i _ hg 9 _ rfl
    have hrow := hL.row i _ hg
    simp only [Nat.add_zero] at c0
    have hlena : ((g.sess.take i).filter P).length ≤ 8 := by
      have h1 := List.length_filter_le P (g.sess.take i)
      rw [List.length_take] at h1
      omega
    have hlenb : ((g.sess.take i).filter fun s => !P s).length ≤ 8 := by
      have h1 := List.length_filter_le (fun s => !P s) (g.sess.take i)
      rw [List.length_take] at h1
      omega
    have hkeep : P g.sess[i] = false → ∀ w2, Ext [] w1 w2 → lodestarref18_Hub_Tick_j7 Q (fun x0 x1 x2 x3 x4 => next (x0, x1, x2, x3, x4)) (pt g.blk 0) (.int .u32 now) va vb (I i) (.bool false) w2 := by
      intro hp0 w2 x2
      unfold lodestarref18_Hub_Tick_j7
      have e1 : [g.sess[i]].filter P = [] := by simp [hp0]
      have e2 : [g.sess[i]].filter (fun s => !P s) = [g.sess[i]] := by simp [hp0]
      rw [e1, e2, List.append_nil] at nx
      have st2 := st1.trans (RStep.idle hr1 x2)
      have hat2 := st2.rep.at_
      unfold Rh.cells at hat2
      have hrow2 : rowOf (hp w2 L) (i * 10) 10 = some (.agg g.sess[i].cells.toArray) := by rw [x2.same L (hr1.lt L (by rw [hL.own]; simp)) (by simp)]; exact hrow
      simp [hat2, hvl]
      rw [ifK_pos (by simp; omega)]
      simp [hrow2]
      rw [bs_rs]
      simp
      have x3 : Ext [] w2 (w2.alloc (.cells g.sess[i].cells.toArray 116)) := (Ext.refl _ _).alloc
      have hone : ∀ u ∈ g.sess[i].cells.toArray, u.oneCell' = true := by
        intro u hu
        have hva := (hr1.sess _ (List.mem_of_getElem? hg)).va
        obtain ⟨a, c, hvs⟩ := hva.len
        simp [Rs.cells, hvs] at hu
        rcases hu with rfl | rfl | rfl | rfl | rfl | rfl | rfl | rfl | rfl | rfl <;> rfl
      refine append_spec (base := w.heap.size) (t := 73) (e := 116) (z := .agg #[.int .u64 0, .int .u32 0, .slice none 0 0, .int .i64 0, .int .i64 0, .int .i64 0, .int .i64 0, .bool false, .int .i64 0, .int .u32 0]) (sz := 10) (bytes := 96) (by kernel_rfl) (by kernel_rfl) rfl (by decide) ((hvb.ext x2 (by simp)).ext x3 (by simp)) (g := w2.heap.size) (m := 1) (cs := g.sess[i].cells.toArray) (T := 116) (fr := (0, 0)) (by simp) (by rfl) hone
        (by unfold maxLen; omega) (by omega) (Nat.le_trans st2.size x3.size) fun v' w4 x4 hv4 _ hob4 => ?_
      have st3 := st2.trans (RStep.idle st2.rep x3)
      have hvo4 : ∀ b ∈ ob v', g.own b = .none ∧ b ∉ ob va := by
        intro b hb
        rcases hob4 with e | e
        · rw [e] at hb; exact ⟨hob b hb, fun hh => hd b hh hb⟩
        · rw [e] at hb
          simp at hb
          rw [hb]
          exact ⟨st3.rep.fresh (by simp), fun hh => by
            have := (hva.ob_ge _ hh).2
            have := x2.size
            omega⟩
      refine nx w4 va v' (st3.fresh x4 fun b hb => ⟨(hvb.ob_ge b hb).1, hob b hb⟩) (((hva.ext x2 (by simp)).ext x3 (by simp)).ext x4 fun b hb hh => hd b hb hh) ?_ hoa (fun b hb => (hvo4 b hb).1) (fun b hb hh => (hvo4 b hh).2 hb)
      rw [flatL_append, flatL_one, List.length_append]
      simpa using hv4
    have hgone : P g.sess[i] = true → ∀ w2, Ext [] w1 w2 → lodestarref18_Hub_Tick_j7 Q (fun x0 x1 x2 x3 x4 => next (x0, x1, x2, x3, x4)) (pt g.blk 0) (.int .u32 now) va vb (I i) (.bool true) w2 := by
      intro hp0 w2 x2
      unfold lodestarref18_Hub_Tick_j7
      have e1 : [g.sess[i]].filter P = [g.sess[i]] := by simp [hp0]
      have e2 : [g.sess[i]].filter (fun s => !P s) = [] := by simp [hp0]
      rw [e1, e2, List.append_nil] at nx
      have st2 := st1.trans (RStep.idle hr1 x2)
      have hat2 := st2.rep.at_
      unfold Rh.cells at hat2
      have c02 : cellOf (hp w2 L) (i * 10) = some (.int .u64 g.sess[i].tok) := by rw [x2.same L (hr1.lt L (by rw [hL.own]; simp)) (by simp)]; exact c0
      simp [hat2, hvl]
      rw [ifK_pos (by simp; omega)]
      simp [c02]
      have x3 : Ext [] w2 (w2.alloc (.cells #[eU g.sess[i].tok] 23)) := (Ext.refl _ _).alloc
      refine append_spec (base := w.heap.size) (t := 58) (e := 23) (z := .int .u64 0) (sz := 1) (bytes := 8) (by kernel_rfl) (by kernel_rfl) rfl (by decide) ((hva.ext x2 (by simp)).ext x3 (by simp)) (g := w2.heap.size) (m := 1) (cs := #[eU g.sess[i].tok]) (T := 23) (fr := (0, 0)) (by simp) (by simp) (by simp)
        (by unfold maxLen; omega) (by omega) (Nat.le_trans st2.size x3.size) fun v' w4 x4 hv4 _ hob4 => ?_
      have st3 := st2.trans (RStep.idle st2.rep x3)
      have hvo4 : ∀ b ∈ ob v', g.own b = .none ∧ b ∉ ob vb := by
        intro b hb
        rcases hob4 with e | e
        · rw [e] at hb; exact ⟨hoa b hb, hd b hb⟩
        · rw [e] at hb
          simp at hb
          rw [hb]
          exact ⟨st3.rep.fresh (by simp), fun hh => by
            have := (hvb.ob_ge _ hh).2
            have := x2.size
            omega⟩
      refine nx w4 v' vb (st3.fresh x4 fun b hb => ⟨(hva.ob_ge b hb).1, hoa b hb⟩) ?_ (((hvb.ext x2 (by simp)).ext x3 (by simp)).ext x4 fun b hb hh => hd b hh hb) (fun b hb => (hvo4 b hb).1) hob (fun b hb hh => (hvo4 b hb).2 hh)
      simpa using hv4
    unfold lodestarref18_Hub_Tick_j5
    simp [hat, hvl]
    rw [ifK_pos (by simp; omega)]
    simp [c7]
    have hsn := (hr1.sess _ (List.mem_of_getElem? hg)).since
    cases hh : g.sess[i].has
    · simp [hat, hvl]
      rw [ifK_pos (by simp; omega)]
      simp [c9, hat]
      rw [wrap_i64 (now : Int) (by omega) (by omega), wrap_i64 (g.sess[i].since : Int) (by omega) (by omega), wrap_i64 (g.away : Int) (by omega) (by omega), wrap_i64 _ (by omega) (by omega)]
      have e : decide ((g.away : Int) < (now : Int) - (g.sess[i].since : Int)) = P g.sess[i] := by
        show _ = (!g.sess[i].has && decide (g.sess[i].since + g.away < now))
        rw [hh]
        simp
        omega
      rw [e]
      cases hp0 : P g.sess[i]
      · exact hkeep hp0 _ (Ext.drw (Ext.refl _ _))
      · exact hgone hp0 _ (Ext.drw (Ext.refl _ _))
    · simp
      exact hkeep (by simp [P, Rs.gone, hh]) _ (Ext.drw (Ext.refl _ _))
  · rw [ifB_neg (by simpa using hlt)]
    rw [List.take_of_length_le (by omega)] at hva hvb
    unfold lodestarref18_Hub_Tick_j3
    have hone : vb.oneCell' = true := by obtain ⟨a, c, rfl⟩ := hvb.len; rfl
    have hr2 := hr1.withS (l := g.sess.filter fun s => !P s) (hvb.base (Nat.zero_le _)) (fun b hb => .inl (hob b hb)) (fun s hs => hr1.sess s (List.mem_filter.1 hs).1) ((List.Sublist.map _ List.filter_sublist).nodup hr.ndS)
    simp [hat, hone]
    have x2 : Ext [g.blk] w1 (put w1 g.blk (.cells (g.withS vb (g.sess.filter fun s => !P s)).cells 75 (0, 0))) := Ext.put (Ext.refl _ _) (.inl (by simp))
    have st2 : RStep w g _ (g.withS vb (g.sess.filter fun s => !P s)) := ⟨x2.os.trans st1.os, x2.tape.trans st1.tape, x2.output.trans st1.output, Nat.le_trans st1.size x2.size,
      fun b hb hn => (x2.same b (Nat.lt_of_lt_of_le hb st1.size) (fun hs => by simp at hs; rw [hs, hr.o0] at hn; cases hn)).trans (st1.same b hb hn),
      fun b hb hn => by
        show ownV g.own vb (.hub 2) b = _
        unfold ownV
        rw [if_neg (fun hbv => by have := (hvb.ob_ge b hbv).1; omega)]
        exact hn, hr2, rfl, fun hz s hs => hz s (List.mem_filter.1 hs).1⟩
    refine h _ _ va st2 ?_ ?_ ?_
    · show (⟨g.caps, g.size, g.away, g.last, g.conns, (g.sess.filter fun s => !P s).map Rs.abs⟩ : MH) = _
      rw [ht2]
      rfl
    · rw [← ht1, List.length_map, List.map_map]
      refine Vec.ext hva x2 fun b hb hh => ?_
      simp at hh
      have := hoa b hb
      rw [hh, hr.o0] at this
      cases this
    · intro b hb
      show ownV g.own vb (.hub 2) b = _
      unfold ownV
      rw [if_neg (hd b hb)]
      exact hoa b hb
end Go.Proofs.Ytpdcllhmbjnooaa
