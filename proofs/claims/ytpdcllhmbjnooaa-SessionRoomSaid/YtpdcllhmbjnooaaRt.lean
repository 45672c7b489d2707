/- SessionRoom: the rooms are never more than there are. -/
import Derived.Test.YtpdcllhmbjnooaaRs
namespace Go.Proofs.Ytpdcllhmbjnooaa
open Go.Dc
set_option maxRecDepth 10000

theorem nodup_len {l : List Int} : ∀ {m : List Int}, l.Nodup → (∀ a ∈ l, a ∈ m) → l.length ≤ m.length := by
  induction l with
  | nil => intro m _ _; exact Nat.zero_le _
  | cons a l ih =>
    intro m hn hs
    have ha := hs a (by simp)
    have h1 : l.length ≤ (m.erase a).length := ih (List.nodup_cons.1 hn).2 fun b hb => by
      have hne : b ≠ a := fun e => (List.nodup_cons.1 hn).1 (by rw [← e]; exact hb)
      exact (List.mem_erase_of_ne hne).2 (hs b (List.mem_cons_of_mem _ hb))
    rw [List.length_erase_of_mem ha] at h1
    have := List.length_pos_of_mem ha
    simp
    omega

theorem conn_inv {m : MH} {t : Nat} {n : Int} (h : m.conn t = (n, true)) : ∃ s ∈ m.sess, s.tok = t ∧ s.conn = some n := by
  unfold MH.conn at h
  split at h
  · rename_i s hf
    split at h
    · rename_i n' hc
      injection h with h _
      subst h
      refine ⟨s, List.mem_of_find?_eq_some hf, ?_, hc⟩
      have := List.find?_some hf
      simpa using this
    · cases h
  · cases h

/-- The connections seen so far. -/
structure Seen (m : MH) (t : Nat) (l : List Int) : Prop where
  nd : l.Nodup
  from_ : ∀ n ∈ l, ∃ u, u < t ∧ m.conn u = (n, true)
theorem Seen.len {m : MH} {t : Nat} {l : List Int} (h : Seen m t l) (ok : m.Ok) : l.length ≤ m.conns.length := by
  refine nodup_len h.nd fun n hn => ?_
  obtain ⟨u, _, hu⟩ := h.from_ n hn
  obtain ⟨s, hs, _, hc⟩ := conn_inv hu
  exact ok.sc s hs n hc
theorem Seen.not {m : MH} {t : Nat} {l : List Int} (h : Seen m t l) (ok : m.Ok) {n : Int} (hn : m.conn t = (n, true)) : n ∉ l := by
  intro hm
  obtain ⟨u, hut, hu⟩ := h.from_ n hm
  obtain ⟨s, hs, hst, hc⟩ := conn_inv hu
  obtain ⟨s', hs', hst', hc'⟩ := conn_inv hn
  have := ok.u s hs s' hs' n hc hc'
  omega
theorem Seen.idle {m : MH} {t : Nat} {l : List Int} (h : Seen m t l) : Seen m (t + 1) l :=
  ⟨h.nd, fun n hn => by obtain ⟨u, h1, h2⟩ := h.from_ n hn; exact ⟨u, by omega, h2⟩⟩
theorem Seen.add {m : MH} {t : Nat} {l : List Int} (h : Seen m t l) (ok : m.Ok) {n : Int} (hn : m.conn t = (n, true)) : Seen m (t + 1) (l ++ [n]) := by
  refine ⟨List.nodup_append.2 ⟨h.nd, by simp, ?_⟩, fun k hk => ?_⟩
  · intro a ha b hb e
    simp at hb
    rw [e, hb] at ha
    exact h.not ok hn ha
  · rcases List.mem_append.1 hk with hk | hk
    · obtain ⟨u, h1, h2⟩ := h.from_ k hk
      exact ⟨u, by omega, h2⟩
    · simp at hk
      rw [hk]
      exact ⟨t, by omega, hn⟩

theorem Law.write {W w w' : World} {x : Bo} {k : Nat} {S : List Nat} (h : Law W w x k) (e : Ext S w w') (hS : ∀ b ∈ S, x.free b ∧ W.heap.size ≤ b) : Law W w' x k :=
  ⟨h.bi.ext e fun b hb => (hS b hb).1, h.ext.trans e fun b hb => .inr (hS b hb).2, h.free⟩

/-- The list of those seen. -/
structure SV (W w : World) (x : Bo) (v : Value) (l : List Int) : Prop where
  vec : Vec w 0 3 1 v l.length (l.map I)
  fr : ∀ b ∈ ob v, x.free b ∧ W.heap.size ≤ b

theorem SV.add {W w w1 w2 : World} {x : Bo} {v v' : Value} {l : List Int} {n : Int} (h : SV W w x v l) (hx : ∀ b, w.heap.size ≤ b → x.free b) (hW : W.heap.size ≤ w.heap.size) (hs : w.heap.size ≤ w1.heap.size)
    (hv : Vec w2 0 3 1 v' (l.length + 1) (l.map I ++ [I n])) (hob : ob v' = ob v ∨ ob v' = [w1.heap.size]) : SV W w2 x v' (l ++ [n]) := by
  refine ⟨by simpa using hv, fun b hb => ?_⟩
  rcases hob with e | e
  · rw [e] at hb; exact h.fr b hb
  · rw [e] at hb; simp at hb; rw [hb]; exact ⟨hx _ hs, by omega⟩

/-- All tokens are gone through. -/
theorem Room_j9 {W w : World} {x : Bo} {k i : Nat} {lv : Value} {Q : Cont} {next : Value → Value → Value → World → Prop} (hL : Law W w x k) (hk : k ≤ 1000) (hi : i ≤ 100)
    (h : ∀ w', Law W w' x k → next lv (pt x.blk 0) (I (i + 1 : Nat)) w') : lodestarlaw18_SessionRoom_j9 Q next lv (pt x.blk 0) (I i) w := by
  have ok : x.gh.abs.Ok := ok_of_wf hL.bi.bp.hub hL.bi.bp.wf
  have hlast := hL.bi.lim.last
  have el : x.gr.last = x.gh.abs.last := congrArg MH.last hL.bi.sim
  unfold lodestarlaw18_SessionRoom_j9 lodestarlaw18_SessionRoom_j10 lodestarlaw18_SessionRoom_j12 lodestarlaw18_SessionRoom_l1
  refine loopW_intro (fun s w' => ∃ (t : Nat) (v : Value) (l : List Int), s = (lv, pt x.blk 0, I i, v, .int .u64 t) ∧ 1 ≤ t ∧ t ≤ x.gr.last + 1 ∧ Law W w' x k ∧ Seen x.gh.abs t l ∧ SV W w' x v l)
    (fun s _ => match s.2.2.2.2 with | .int _ i => x.gr.last + 1 - i.toNat | _ => 0) ⟨1, .slice none 0 0, [], rfl, by omega, by omega, hL, ⟨List.nodup_nil, by simp⟩, ⟨Vec.nil _ _ _ _, by simp [ob]⟩⟩ ?_
  rintro s w1 ⟨t, v, l, rfl, ht1, ht, L1, hS, hV⟩ nx hnx
  have hll := hS.len ok
  have hl8 := ok.lc
  have hat := L1.bi.bp.at_
  have hgt := L1.bi.bp.rr.at_
  unfold Rh.cells at hgt
  unfold lodestarlaw18_SessionRoom_l1b
  simp [hat, hgt]
  by_cases hlt : t ≤ x.gr.last
  · rw [ifB_pos (by simp; omega)]
    unfold lodestarlaw18_SessionRoom_j13
    simp [hat]
    refine Conn_spec L1.bi.bp.hub L1.bi.bp.wf ?_
    simp
    obtain ⟨n, b, hnb⟩ : ∃ n b, x.gh.abs.conn t = (n, b) := ⟨_, _, rfl⟩
    rw [hnb]
    unfold lodestarlaw18_SessionRoom_j15
    cases b with
    | false =>
      rw [iteW_bool, ifB_neg (by simp)]
      unfold lodestarlaw18_SessionRoom_j17 lodestarlaw18_SessionRoom_j16 lodestarlaw18_SessionRoom_j14
      simp
      rw [wrap_u64 _ (by omega) (by omega)]
      exact hnx _ _ ⟨t + 1, v, l, rfl, by omega, by omega, L1, hS.idle, hV⟩ (by simp; omega)
    | true =>
      rw [iteW_bool, ifB_pos (by simp)]
      refine Has_spec hV.vec (by omega) ?_
      rw [decide_eq_false (hS.not ok hnb)]
      unfold lodestarlaw18_SessionRoom_j17 lodestarlaw18_SessionRoom_j16
      simp
      have x2 : Ext [] w1 (w1.alloc (.cells #[I n] 3)) := (Ext.refl _ _).alloc
      have L2 := L1.write x2 (by simp)
      refine append_spec (base := 0) (t := 43) (e := 3) (z := .int .i64 0) (sz := 1) (bytes := 8) (by kernel_rfl) (by kernel_rfl) rfl (by decide) (hV.vec.ext x2 (by simp)) (g := w1.heap.size) (m := 1) (cs := #[I n]) (T := 3) (fr := (0, 0)) (by simp) (by simp) (by simp)
        (by unfold maxLen; omega) (by omega) (Nat.zero_le _) fun v' w3 x3 hv3 _ hob => ?_
      have L3 := L2.write x3 hV.fr
      have hV3 : SV W w3 x v' (l ++ [n]) := hV.add (fun b hb => L1.bi.bp.lt hb) L1.ext.size x2.size (by simpa using hv3) hob
      unfold lodestarlaw18_SessionRoom_j14
      simp
      rw [wrap_u64 _ (by omega) (by omega)]
      exact hnx _ _ ⟨t + 1, v', l ++ [n], rfl, by omega, by omega, L3, hS.add ok hnb, hV3⟩ (by simp; omega)
  · rw [ifB_neg (by simp; omega)]
    unfold lodestarlaw18_SessionRoom_j11
    rw [Vec.len43 hV.vec]
    simp [hat]
    refine Conns_spec L1.bi.bp.hub ?_
    simp
    rw [ifB_neg (by simp; omega)]
    unfold lodestarlaw18_SessionRoom_j6
    simp
    rw [wr_i64 _ (by omega) (by omega)]
    exact h w1 L1

theorem SessionRoom_spec {caps : Nat} {v : Value} {W : World} {Q : Cont} (hc : caps < 4294967296) (hrd : ∀ w', Ext [] W w' → Rd w' 62 [v])
    (h : ∀ w', Ext [] W w' → Q (.bool true) w') : Ret pg n_lodestarlaw18_SessionRoom #[.int .u32 caps, v] Q W := by
  apply lodestarlaw18_SessionRoom_ok
  unfold lodestarlaw18_SessionRoom lodestarlaw18_SessionRoom_j0
  refine alive_spec fun w1 x1 => ?_
  simp
  unfold lodestarlaw18_SessionRoom_j1
  refine Begin_spec (size := 4) (away := 20) hc (by decide) fun w2 x bi2 x2 hf2 => ?_
  have L2 : Law W w2 x 0 := ⟨bi2, x1.trans x2 (by simp), fun b hb => hf2 b (by have := x1.size; omega)⟩
  obtain ⟨ad, n, c, hv, hn, hel⟩ := ops_of (hrd W (Ext.refl _ _))
  unfold maxLen at hn
  clear bi2 x2 hf2 x1
  unfold lodestarlaw18_SessionRoom_j2 lodestarlaw18_SessionRoom_j4 lodestarlaw18_SessionRoom_l0
  refine loopW_intro (fun s w' => ∃ (i : Nat) (y : Bo), s = (v, pt y.blk 0, I i) ∧ i ≤ n ∧ i ≤ 100 ∧ Law W w' y (2 * i)) (fun s _ => match s.2.2 with | .int _ i => n - i.toNat | _ => 0) ⟨0, x, rfl, Nat.zero_le _, Nat.zero_le _, L2⟩ ?_
  rintro s w3 ⟨i, y, rfl, hi, hi80, L3⟩ next hnext
  have fin : lodestarlaw18_SessionRoom_j3 Q w3 := h w3 L3.ext
  unfold lodestarlaw18_SessionRoom_l0b
  rw [hv] at hnext ⊢
  simp
  by_cases hlt : i < n
  · rw [ifB_pos (by simpa using hlt)]
    simp
    unfold lodestarlaw18_SessionRoom_j19
    by_cases h80 : i < 100
    · rw [iteW_bool, ifB_pos (by simp; omega)]
      obtain ⟨b, o, rfl, _⟩ := hel (by omega)
      unfold lodestarlaw18_SessionRoom_j5
      obtain ⟨p, m, hO, hgr⟩ := great_op (Q := fun v11 => iteW v11 (Q (.bool true)) (lodestarlaw18_SessionRoom_j7 Q (fun x0 x1 x2 => next (x0, x1, x2)) (.slice (some ⟨b, o, none⟩) n c) (pt y.blk 0) (I i))) hrd hv hlt L3 fun e p m w4 hO4 L4 => by
        cases e with
        | true => simp; exact h w4 L4.ext
        | false =>
          simp
          obtain ⟨kind, conn, f, num, ahead, tell, hop, hnum⟩ := hO4.ex
          unfold lodestarlaw18_SessionRoom_j7
          have hrow := hO4.row
          simp [hlt, hrow]
          refine Do_spec L4.bi (by omega) hop hnum fun w5 y5 bi5 st5 => ?_
          have L5 := L4.step bi5 st5
          have hat5 := L5.bi.bp.at_
          have ok5 : y5.gh.abs.Ok := ok_of_wf L5.bi.bp.hub L5.bi.bp.wf
          have lc5 := ok5.lc
          have ls5 := ok5.ls
          rw [← st5.blk]
          unfold lodestarlaw18_SessionRoom_j8
          simp [hat5]
          refine Conns_spec L5.bi.bp.hub ?_
          simp
          rw [ifB_neg (by simp; omega)]
          simp [hat5]
          refine Sessions_spec L5.bi.bp.hub ?_
          simp
          unfold lodestarlaw18_SessionRoom_j18
          rw [iteW_bool, ifB_neg (by simp; omega)]
          exact Room_j9 L5 (by omega) (by omega) fun w6 L6 => hnext _ _ ⟨i + 1, y5, rfl, by omega, by omega, L6⟩ (by simp; omega)
      have hmsg := hO.msg
      simp [hlt, hmsg]
      exact hgr
    · rw [iteW_bool, ifB_neg (by simp; omega)]
      exact fin
  · rw [ifB_neg (by simpa using hlt)]
    unfold lodestarlaw18_SessionRoom_j19
    rw [iteW_bool, ifB_neg (by simp)]
    exact fin
end Go.Proofs.Ytpdcllhmbjnooaa
