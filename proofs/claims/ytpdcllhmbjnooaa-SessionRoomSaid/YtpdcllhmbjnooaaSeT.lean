/- Sessions: the ticks. -/
import Derived.Test.YtpdcllhmbjnooaaSeE
import Derived.Test.YtpdcllhmbjnooaaItC
import Derived.Test.YtpdcllhmbjnooaaSoA
import Derived.Test.YtpdcllhmbjnooaaAp
import Derived.Test.YtpdcllhmbjnooaaLm
namespace Go.Proofs.Ytpdcllhmbjnooaa
open Go.Dc
set_option maxRecDepth 10000

theorem Keys_spec {v : Value} {w : World} {Q : Cont} (h : Q (.func (.func n_maps_Keys_map_uint64_session_session_uint64_session_session_1) #[] #[pt w.heap.size 0]) (w.alloc (.cells #[v] 82))) (hv : ∃ m, v = .map m) :
    Ret pg n_maps_Keys_map_uint64_session_session_uint64_session_session #[v] Q w := by
  obtain ⟨m, rfl⟩ := hv
  apply maps_Keys_map_uint64_session_session_uint64_session_session_ok
  unfold maps_Keys_map_uint64_session_session_uint64_session_session
  simp
  exact h

theorem Sorted_spec {w : World} {b Bm : Nat} {l : List (Int × Value)} {Q : Cont} (hm : cellOf (hp w Bm) 0 = some (.map (some b))) (hb : MapIs encU (hp w b) l) (hnd : (l.map (·.1)).Nodup) (hwf : ∀ p ∈ l, (Lit.int .u64 p.1).wf = true) (hlen : l.length ≤ 12)
    (h : ∀ w' v ss, Ext [] w w' → ss.Perm (l.map (·.1)) → ss.Pairwise (· ≤ ·) → RowU w' w.heap.size v ss → Q v w') :
    Ret pg n_slices_Sorted_uint64 #[.func (.func n_maps_Keys_map_uint64_session_session_uint64_session_session_1) #[] #[pt Bm 0]] Q w := by
  apply slices_Sorted_uint64_ok
  unfold slices_Sorted_uint64
  refine collect_spec hm hb hnd hwf (by omega) fun w1 v ss x1 hp1 hR => ?_
  have hl := hp1.length_eq
  simp at hl
  rcases hR with ⟨rfl, rfl⟩ | ⟨g, cap, cur, rfl, h1, h2, h3, h4, h5⟩
  · refine Sort_nil ?_
    exact h w1 _ [] x1 hp1 List.Pairwise.nil (.inl ⟨rfl, rfl⟩)
  · refine Sort_spec (l := ss) (rest := cur.toList.drop ss.length) ⟨cur, h2, ?_⟩ rfl (by omega) fun w2 ss2 x2 z2 hU hP hS => ?_
    · rw [← h5]; exact (List.take_append_drop _ _).symm
    · obtain ⟨cur2, k1, k2⟩ := hU
      refine h w2 _ ss2 (x1.trans x2 (by simp; omega)) (hP.trans hp1) hS (.inr ⟨g, cap, cur2, by rw [hP.length_eq], h1, k1, by rw [hP.length_eq]; exact h3, ?_, ?_⟩)
      · have := congrArg List.length k2
        have e := hP.length_eq
        simp at this
        omega
      · rw [k2]; simp [List.take_append_of_le_length]

/-! ### Ticks -/

def MS.gone (s : MS) (now away : Nat) : Bool := s.conn.isNone && decide (s.since ≤ now) && decide (away < now - s.since)
def MH.tick (m : MH) (now : Nat) : MH := { m with sess := m.sess.filter fun s => !s.gone now m.away }
def MH.tickT (m : MH) (now : Nat) : List Nat := (m.sess.filter fun s => s.gone now m.away).map (·.tok)
def Ss.gone (s : Ss) (now away : Nat) : Bool := s.conn.isNone && decide (s.since ≤ now) && decide (away < now - s.since)
theorem gone_abs (s : Ss) (now away : Nat) : s.abs.gone now away = s.gone now away := by
  unfold MS.gone Ss.gone Ss.abs
  simp

/-- A hub of which some sessions, with no connection, are gone. -/
theorem Hb.Wf.sub {g : Hb} (hw : g.Wf) {l : List Ss} (hl : l.Sublist g.sess) (hk : ∀ s ∈ g.sess, s.conn ≠ none → s ∈ l) : ({ g with sess := l } : Hb).Wf := by
  refine ⟨fun c hc sb hsb => ?_, fun s hs cb n h => hw.sc s (hl.subset hs) cb n h, hw.lc, Nat.le_trans hl.length_le hw.ls, fun s hs => hw.tok s (hl.subset hs), ?_, hw.caps, hw.away, fun s hs => hw.scaps s (hl.subset hs), fun s hs => hw.since s (hl.subset hs)⟩
  · obtain ⟨s, h1, h2, h3⟩ := hw.cs c hc sb hsb
    exact ⟨s, hk s h1 (by rw [h3]; simp), h2, h3⟩
  · exact List.Pairwise.sublist (hl.map _) hw.asc

/-- The sessions that are left when the first i were looked at. -/
def leftS (S : List Ss) (now away i : Nat) : List Ss := (S.take i).filter (fun s => !s.gone now away) ++ S.drop i
def goneS (S : List Ss) (now away i : Nat) : List Ss := (S.take i).filter (fun s => s.gone now away)

theorem leftS_sub (S : List Ss) (now away i : Nat) : (leftS S now away i).Sublist S := by
  unfold leftS
  conv => rhs; rw [← List.take_append_drop i S]
  exact List.Sublist.append List.filter_sublist (List.Sublist.refl _)
theorem leftS_keep {S : List Ss} {now away i : Nat} {s : Ss} (hs : s ∈ S) (hc : s.conn ≠ none) : s ∈ leftS S now away i := by
  unfold leftS
  rw [← List.take_append_drop i S] at hs
  rcases List.mem_append.1 hs with h | h
  · refine List.mem_append_left _ (List.mem_filter.2 ⟨h, ?_⟩)
    unfold Ss.gone
    cases hx : s.conn with
    | none => exact absurd hx hc
    | some p => simp
  · exact List.mem_append_right _ h
theorem leftS_next {S : List Ss} {now away i : Nat} (hi : i < S.length) : leftS S now away (i + 1) = if S[i].gone now away then (S.take i).filter (fun s => !s.gone now away) ++ S.drop (i + 1) else leftS S now away i := by
  unfold leftS
  rw [List.take_add_one, List.getElem?_eq_getElem hi, List.filter_append]
  conv => rhs; rw [List.drop_eq_getElem_cons hi]
  by_cases h : S[i].gone now away
  · simp [h]
  · simp [h]
theorem goneS_next {S : List Ss} {now away i : Nat} (hi : i < S.length) : goneS S now away (i + 1) = if S[i].gone now away then goneS S now away i ++ [S[i]] else goneS S now away i := by
  unfold goneS
  rw [List.take_add_one, List.getElem?_eq_getElem hi, List.filter_append]
  by_cases h : S[i].gone now away <;> simp [h]

theorem leftS_del {S : List Ss} {now away i : Nat} (hn : (S.map (·.tok)).Nodup) (hi : i < S.length) :
    (leftS S now away i).filter (fun s => s.tok != S[i].tok) = (S.take i).filter (fun s => !s.gone now away) ++ S.drop (i + 1) := by
  unfold leftS
  have e : S = S.take i ++ S[i] :: S.drop (i + 1) := by rw [← List.drop_eq_getElem_cons hi, List.take_append_drop]
  have hn' : ((S.take i ++ S[i] :: S.drop (i + 1)).map (·.tok)).Nodup := by rw [← e]; exact hn
  rw [List.map_append, List.map_cons, List.nodup_append, List.nodup_cons] at hn'
  rw [List.filter_append, List.drop_eq_getElem_cons hi, List.filter_cons]
  simp only [bne_self_eq_false, Bool.false_eq_true, if_false]
  congr 1
  · refine List.filter_eq_self.2 fun s hs => ?_
    have hs' := (List.mem_filter.1 hs).1
    simp only [bne_iff_ne, ne_eq]
    exact hn'.2.2 _ (List.mem_map.2 ⟨s, hs', rfl⟩) _ (by simp)
  · refine List.filter_eq_self.2 fun s hs => ?_
    simp only [bne_iff_ne, ne_eq]
    exact fun h => hn'.2.1.1 (h ▸ List.mem_map.2 ⟨s, hs, rfl⟩)

theorem wf_u64 {n : Int} (h0 : 0 ≤ n) (h : n < 18446744073709551616) : (Lit.int .u64 n).wf = true := by
  unfold Lit.wf
  simp [IntKind.min, IntKind.max, IntKind.bits, IntKind.signed]
  omega

theorem tick_left {S : List Ss} {now away i : Nat} : (leftS S now away i).map Ss.abs = ((S.map Ss.abs).take i).filter (fun s => !s.gone now away) ++ (S.map Ss.abs).drop i := by
  unfold leftS
  rw [List.map_append, ← List.map_take, List.filter_map, List.map_drop]
  congr 2
  apply List.filter_congr
  intro s _
  simp [gone_abs]

theorem tick_end {g : Hb} {now : Nat} : ({ g with sess := leftS g.sess now g.away g.sess.length } : Hb).abs = g.abs.tick now ∧ (goneS g.sess now g.away g.sess.length).map (·.tok) = g.abs.tickT now := by
  constructor
  · unfold Hb.abs MH.tick
    simp only [tick_left]
    congr 1
    rw [List.take_of_length_le (by simp), List.drop_of_length_le (by simp), List.append_nil]
  · unfold goneS MH.tickT Hb.abs
    simp only [List.take_length, List.filter_map, List.map_map]
    congr 1
    apply List.filter_congr
    intro s _
    simp [gone_abs]

theorem Step.fresh {w w1 w2 : World} {g g1 : Hb} {S : List Nat} (st : Step w g w1 g1) (x : Ext S w1 w2) (hS : ∀ b ∈ S, w.heap.size ≤ b ∧ g1.own b = .none) : Step w g w2 g1 :=
  ⟨x.os.trans st.os, x.tape.trans st.tape, x.output.trans st.output, Nat.le_trans st.size x.size, fun b hb hn => (x.same b (Nat.lt_of_lt_of_le hb st.size) (fun hs => by have := (hS b hs).1; omega)).trans (st.same b hb hn), st.own,
    st.rep.ext x (fun b hb => (hS b hb).2), st.wf, st.blk⟩

theorem Tick_spec {w : World} {g : Hb} {now : Nat} {Q : Cont} (hr : HubRep w g) (hw : g.Wf) (hn : now < 4294967296) (hl : g.last < 18446744073709551616)
    (h : ∀ w' g' v, Step w g w' g' → g'.abs = g.abs.tick now → g'.own = g.own → Vec w' w.heap.size 23 1 v (g.abs.tickT now).length ((g.abs.tickT now).map fun n : Nat => eU n) → Q v w') :
    Ret pg n_session_Hub_Tick #[pt g.blk 0, .int .u32 now] Q w := by
  apply session_Hub_Tick_ok
  unfold session_Hub_Tick session_Hub_Tick_j0 session_Hub_Tick_j1
  simp [hr.at_]
  refine Keys_spec ?_ ⟨_, rfl⟩
  have hr1 := hr.alloc (.cells #[.map (some g.ml)] 82)
  generalize hW1 : w.alloc (.cells #[.map (some g.ml)] 82) = w1 at *
  have x1 : Ext [] w w1 := by rw [← hW1]; exact (Ext.refl _ _).alloc
  have hnd : ((g.sess.map fun s => ((s.tok : Int), pt s.blk 0)).map (·.1)).Nodup := by
    have := hr.ndS
    rw [List.nodup_iff_pairwise_ne, List.pairwise_map] at this
    rw [List.map_map, List.nodup_iff_pairwise_ne, List.pairwise_map]
    exact this.imp fun h e => h (Int.ofNat.inj e)
  refine Sorted_spec (b := g.ml) (by rw [← hW1]; simp) hr1.mapS hnd ?_ (by simp; have := hw.ls; omega) fun w2 v ss x2 hP hS hR => ?_
  · intro p hp
    simp only [List.mem_map] at hp
    obtain ⟨s, hs, rfl⟩ := hp
    have := hw.tok s hs
    exact wf_u64 (by omega) (by omega)
  have hss : ss = g.sess.map fun s => (s.tok : Int) := by
    refine List.Perm.eq_of_pairwise (le := (· ≤ ·)) (fun a b _ _ h1 h2 => Int.le_antisymm h1 h2) hS ?_ (by simpa [List.map_map, Function.comp_def] using hP)
    have := hw.asc
    rw [List.pairwise_map] at this ⊢
    exact this.imp fun h => by omega
  have hN := hw.ls
  have x12 : Ext [] w w2 := x1.trans x2 (by simp)
  have hr2 := hr1.ext x2 (by simp)
  have stw : Step w g w2 g := Step.idle hr hw x12
  have hbase : w.heap.size ≤ w2.heap.size := x12.size
  /- the tokens' list -/
  have hlist : ∃ ad cap, v = .slice ad g.sess.length cap ∧ ∀ i, i < g.sess.length → ∃ G cur, ad = some ⟨G, 0, none⟩ ∧ g.own G = .none ∧ hp w2 G = some (.cells cur 23 (0, 0)) ∧ ∀ hi : i < g.sess.length, cur[i]? = some (eU g.sess[i].tok) := by
    have hl2 : ss.length = g.sess.length := by rw [hss]; simp
    rcases hR with ⟨rfl, h0⟩ | ⟨G, cap, cur, rfl, h1, h2, h3, h4, h5⟩
    · have : g.sess.length = 0 := by rw [← hl2, h0]; rfl
      exact ⟨none, 0, by rw [this], fun i hi => by omega⟩
    · refine ⟨some ⟨G, 0, none⟩, cap, by rw [hl2], fun i hi => ⟨G, cur, rfl, hr1.fresh (by omega), h2, fun _ => ?_⟩⟩
      have h6 : (cur.toList.take ss.length)[i]? = some (eU g.sess[i].tok) := by rw [h5, hss]; simp [hi]
      rw [List.getElem?_take_of_lt (by omega)] at h6
      simpa using h6
  obtain ⟨ad, cap, rfl, hel⟩ := hlist
  clear hR
  simp
  unfold session_Hub_Tick_j3 session_Hub_Tick_l0
  have fin : ∀ w3 v3, Step w2 g w3 { g with sess := leftS g.sess now g.away g.sess.length } → Vec w3 w2.heap.size 23 1 v3 (goneS g.sess now g.away g.sess.length).length ((goneS g.sess now g.away g.sess.length).map fun s => eU s.tok) → Q v3 w3 := by
    intro w3 v3 st hv
    obtain ⟨e1, e2⟩ := tick_end (g := g) (now := now)
    refine h w3 _ v3 (stw.trans st) e1 rfl ?_
    rw [← e2, List.length_map, List.map_map]
    exact hv.base hbase
  refine loopW_intro (fun s w' => ∃ (i : Nat) (v' : Value), s = (pt g.blk 0, .int .u32 now, v', .slice ad g.sess.length cap, I g.sess.length, I i) ∧ i ≤ g.sess.length ∧ Step w2 g w' { g with sess := leftS g.sess now g.away i } ∧
      Vec w' w2.heap.size 23 1 v' (goneS g.sess now g.away i).length ((goneS g.sess now g.away i).map fun s => eU s.tok))
    (fun s _ => match s.2.2.2.2.2 with | .int _ i => g.sess.length - i.toNat | _ => 0) ⟨0, _, rfl, Nat.zero_le _, ?_, ?_⟩ ?_
  · have : ({ g with sess := leftS g.sess now g.away 0 } : Hb) = g := by simp [leftS]
    rw [this]
    exact Step.refl hr2 hw
  · simpa [goneS] using Vec.nil w2 w2.heap.size 23 1
  rintro s w3 ⟨i, v3, rfl, hi, st3, hv3⟩ next hnext
  unfold session_Hub_Tick_l0b
  simp
  unfold session_Hub_Tick_j4
  simp
  by_cases hlt : i < g.sess.length
  · rw [ifB_pos (by simpa using hlt)]
    unfold session_Hub_Tick_j5
    obtain ⟨G, cur, rfl, hGo, hG, hc⟩ := hel i hlt
    have hc := hc hlt
    have hG3 : hp w3 G = some (.cells cur 23 (0, 0)) := by rw [st3.same G (lt_of_hp hG) hGo]; exact hG
    simp
    rw [ifK_pos (by simp; omega)]
    simp [hG3, hc]
    unfold session_Hub_Tick_j7
    have r3 := st3.rep
    have at3 := r3.at_
    simp only at at3
    simp [at3]
    have hmem : g.sess[i] ∈ leftS g.sess now g.away i := by
      unfold leftS
      exact List.mem_append_right _ (by rw [List.drop_eq_getElem_cons hlt]; exact List.mem_cons_self)
    have hS3 := r3.sess g.sess[i] hmem
    have hat := hS3.at_
    have hlk : getM (({ g with sess := leftS g.sess now g.away i } : Hb).sess.map fun s => ((s.tok : Int), pt s.blk 0)) (g.sess[i].tok : Int) = some (pt g.sess[i].blk 0) := by
      rw [getS (g := { g with sess := leftS g.sess now g.away i })]
      have : Hb.findS { g with sess := leftS g.sess now g.away i } g.sess[i].tok = some g.sess[i] := by
        cases hf : Hb.findS { g with sess := leftS g.sess now g.away i } g.sess[i].tok with
        | none => exact absurd rfl (findS_none hf _ hmem)
        | some s =>
          obtain ⟨h1, h2⟩ := findS_mem hf
          rw [nodup_inj r3.ndS h1 hmem h2]
      rw [this]
      rfl
    rw [lk_map_uint64_p_session_session r3.mapS, hlk]
    unfold session_Hub_Tick_j8
    unfold Ss.cells at hat
    have key : ∀ w4, Ext [] w3 w4 → session_Hub_Tick_j9 Q (fun x0 x1 x2 x3 x4 x5 => next (x0, x1, x2, x3, x4, x5)) (pt g.blk 0) (.int .u32 now) v3 (eU g.sess[i].tok) (.slice (some ⟨G, 0, none⟩) g.sess.length cap) (I g.sess.length) (I i) (.bool (g.sess[i].gone now g.away)) w4 := by
      intro w4 x4
      have st4 : Step w2 g w4 { g with sess := leftS g.sess now g.away i } := st3.trans (Step.idle st3.rep st3.wf x4)
      have hv4 := hv3.ext x4 (by simp)
      have nextS : ∀ w5 v5, Step w2 g w5 { g with sess := leftS g.sess now g.away (i + 1) } → Vec w5 w2.heap.size 23 1 v5 (goneS g.sess now g.away (i + 1)).length ((goneS g.sess now g.away (i + 1)).map fun s => eU s.tok) →
          session_Hub_Tick_j6 Q (fun x0 x1 x2 x3 x4 x5 => next (x0, x1, x2, x3, x4, x5)) (pt g.blk 0) (.int .u32 now) v5 (.slice (some ⟨G, 0, none⟩) g.sess.length cap) (I g.sess.length) (I i) w5 := by
        intro w5 v5 st5 hv5
        unfold session_Hub_Tick_j6
        simp
        rw [wr_i64 _ (by omega) (by omega)]
        refine hnext _ _ ⟨i + 1, v5, rfl, by omega, st5, hv5⟩ (by simp; omega)
      unfold session_Hub_Tick_j9
      simp
      by_cases hg : g.sess[i].gone now g.away = true
      · rw [hg]
        simp
        have e1 := leftS_next (now := now) (away := g.away) hlt
        have e2 := goneS_next (now := now) (away := g.away) hlt
        rw [hg] at e1 e2
        simp only [if_true] at e1 e2
        have hlen3 : (goneS g.sess now g.away i).length ≤ 8 := by
          unfold goneS
          have h1 := List.length_filter_le (fun s : Ss => s.gone now g.away) (g.sess.take i)
          rw [List.length_take] at h1
          omega
        have st5 := st4.trans (Step.idle st4.rep st4.wf (Ext.alloc (o := .cells #[eU g.sess[i].tok] 23) (Ext.refl [] w4)))
        refine append_spec (base := w2.heap.size) (t := 58) (e := 23) (z := .int .u64 0) (sz := 1) (bytes := 8) (by kernel_rfl) (by kernel_rfl) rfl (by decide) (hv4.ext (Ext.alloc (Ext.refl [] w4)) (by simp)) (g := w4.heap.size) (m := 1) (cs := #[eU g.sess[i].tok]) (T := 23) (fr := (0, 0)) (by simp) (by simp) (by simp)
          (by unfold maxLen; omega) (by omega) st5.size fun v6 w6 x6 hv6 _ hob => ?_
        have st6 : Step w2 g w6 { g with sess := leftS g.sess now g.away i } := st5.fresh x6 fun b hb => ⟨(hv4.ob_ge b hb).1, hr2.fresh (hv4.ob_ge b hb).1⟩
        have at6 := st6.rep.at_
        simp only at at6
        simp [at6]
        obtain ⟨o, ho, hdel⟩ := del_map_uint64_p_session_session st6.rep.mapS (g.sess[i].tok : Int)
        rw [hdel]
        have hr7 := st6.rep.delS g.sess[i].tok ho
        have hd : ({ g with sess := leftS g.sess now g.away i } : Hb).delS g.sess[i].tok = { g with sess := leftS g.sess now g.away (i + 1) } := by
          unfold Hb.delS
          rw [e1]
          simp only
          rw [leftS_del hr.ndS hlt]
        rw [hd] at hr7
        have hwf7 : ({ g with sess := leftS g.sess now g.away (i + 1) } : Hb).Wf := hw.sub (leftS_sub _ _ _ _) fun s hs hc => leftS_keep hs hc
        have x7 : Ext [g.ml] w6 (put w6 g.ml o) := Ext.put (Ext.refl _ _) (.inl (by simp))
        have st7 : Step w6 { g with sess := leftS g.sess now g.away i } (put w6 g.ml o) { g with sess := leftS g.sess now g.away (i + 1) } := Step.of x7 (by intro b hb _; simp at hb; rw [hb]; simp [hr.o2]) rfl rfl hr7 hwf7
        refine nextS _ v6 (st6.trans st7) ?_
        rw [e2, List.length_append, List.map_append]
        refine Vec.ext (by simpa using hv6) x7 fun b hb => ?_
        simp
        have h1 := (hv6.ob_ge b hb).1
        have h2 := hr2.lt g.ml (by rw [hr.o2]; simp)
        omega
      · simp only [Bool.not_eq_true] at hg
        rw [hg]
        simp
        have e1 := leftS_next (now := now) (away := g.away) hlt
        have e2 := goneS_next (now := now) (away := g.away) hlt
        rw [hg] at e1 e2
        simp only [Bool.false_eq_true, if_false] at e1 e2
        refine nextS w4 v3 (by rw [e1]; exact st4) (by rw [e2]; exact hv4)
    have hsn := hw.since g.sess[i] (List.getElem_mem hlt)
    have haw := hw.away
    have keyF : ∀ w4, Ext [] w3 w4 → g.sess[i].gone now g.away = false → session_Hub_Tick_j9 Q (fun x0 x1 x2 x3 x4 x5 => next (x0, x1, x2, x3, x4, x5)) (pt g.blk 0) (.int .u32 now) v3 (eU g.sess[i].tok) (.slice (some ⟨G, 0, none⟩) g.sess.length cap) (I g.sess.length) (I i) (.bool false) w4 := by
      intro w4 x4 he
      have := key w4 x4
      rwa [he] at this
    have keyT : ∀ w4, Ext [] w3 w4 → g.sess[i].gone now g.away = true → session_Hub_Tick_j9 Q (fun x0 x1 x2 x3 x4 x5 => next (x0, x1, x2, x3, x4, x5)) (pt g.blk 0) (.int .u32 now) v3 (eU g.sess[i].tok) (.slice (some ⟨G, 0, none⟩) g.sess.length cap) (I g.sess.length) (I i) (.bool true) w4 := by
      intro w4 x4 he
      have := key w4 x4
      rwa [he] at this
    simp
    cases hcn : g.sess[i].conn with
    | some p =>
      obtain ⟨cb, cn⟩ := p
      rw [hcn] at hat
      simp [hat, ptO]
      exact keyF _ (Ext.drw (Ext.refl _ _)) (by unfold Ss.gone; rw [hcn]; simp)
    | none =>
      rw [hcn] at hat
      simp [hat, ptO]
      by_cases h1 : g.sess[i].since ≤ now
      · rw [ifB_pos (by simpa using h1)]
        simp [hat, at3]
        rw [wrap_u32 _ (by omega) (by omega)]
        have e : decide ((g.away : Int) < (now : Int) - (g.sess[i].since : Int)) = g.sess[i].gone now g.away := by
          unfold Ss.gone
          rw [hcn]
          simp [h1]
          omega
        rw [e]
        exact key _ (Ext.drw (Ext.refl _ _))
      · rw [ifB_neg (by simpa using h1)]
        exact keyF _ (Ext.drw (Ext.refl _ _)) (by unfold Ss.gone; rw [hcn]; simp [h1])
  · rw [ifB_neg (by simpa using hlt)]
    have : i = g.sess.length := by omega
    subst this
    exact fin w3 v3 st3 hv3
end Go.Proofs.Ytpdcllhmbjnooaa
