/- The reference's hub: its small functions. -/
import Derived.Test.YtpdcllhmbjnooaaRa
namespace Go.Proofs.Ytpdcllhmbjnooaa
open Go.Dc
set_option maxRecDepth 10000

theorem Vec.len43 {w : World} {base : Nat} {e sz : Nat} {v : Value} {n : Nat} {xs : List Value} (h : Vec w base e sz v n xs) (k : Cont) (w1 : World) : b_len #[43] 3 #[v] k w1 = k (I n) w1 := by
  obtain ⟨a, c, rfl⟩ := h.len; simp
theorem Vec.len73 {w : World} {base : Nat} {e sz : Nat} {v : Value} {n : Nat} {xs : List Value} (h : Vec w base e sz v n xs) (k : Cont) (w1 : World) : b_len #[73] 3 #[v] k w1 = k (I n) w1 := by
  obtain ⟨a, c, rfl⟩ := h.len; simp
theorem Vec.len42 {w : World} {base : Nat} {e sz : Nat} {v : Value} {n : Nat} {xs : List Value} (h : Vec w base e sz v n xs) (k : Cont) (w1 : World) : b_len #[42] 3 #[v] k w1 = k (I n) w1 := by
  obtain ⟨a, c, rfl⟩ := h.len; simp
theorem Vec.len42q {w : World} {base : Nat} {e sz : Nat} {v : Value} {n : Nat} {xs : List Value} (h : Vec w base e sz v n xs) (k : Value → Prop) (w1 : World) : b_lenq #[42] 3 #[v] k w1 = k (I n) := by
  obtain ⟨a, c, rfl⟩ := h.len; simp

theorem Has_spec {w : World} {v : Value} {l : List Int} {n : Int} {Q : Cont} (hv : Vec w 0 3 1 v l.length (l.map I)) (hl : l.length < 1000000) (h : Q (.bool (decide (n ∈ l))) w) : Ret pg n_lodestarref11_Has #[v, I n] Q w := by
  apply lodestarref11_Has_ok
  unfold lodestarref11_Has lodestarref11_Has_j0 lodestarref11_Has_j2 lodestarref11_Has_l0
  refine loopW_intro (fun s w' => ∃ i : Nat, s = (v, I n, I i) ∧ i ≤ l.length ∧ w' = w ∧ n ∉ l.take i) (fun s _ => match s.2.2 with | .int _ i => l.length - i.toNat | _ => 0) ⟨0, rfl, Nat.zero_le _, rfl, by simp⟩ ?_
  rintro s w1 ⟨i, rfl, hi, rfl, hn⟩ next hnext
  unfold lodestarref11_Has_l0b
  rw [Vec.len43 hv]
  simp
  by_cases hlt : i < l.length
  · rw [ifB_pos (by simpa using hlt)]
    obtain ⟨g, cap, cur, rfl, hg, hc⟩ := hv.get (i := i) (u := I l[i]) (by simp [hlt])
    simp
    rw [ifK_pos (by simp; omega)]
    simp [hg, hc]
    by_cases he : l[i] = n
    · rw [ifB_pos (by simpa using he)]
      rw [decide_eq_true (he ▸ List.getElem_mem hlt)] at h
      exact h
    · rw [ifB_neg (by simpa using he)]
      simp
      rw [wr_i64 _ (by omega) (by omega)]
      refine hnext _ _ ⟨i + 1, rfl, by omega, rfl, ?_⟩ (by simp; omega)
      rw [List.take_add_one, List.getElem?_eq_getElem hlt]
      exact fun hh => (List.mem_append.1 hh).elim hn fun h2 => he (by simp at h2; exact h2.symm)
  · rw [ifB_neg (by simpa using hlt)]
    unfold lodestarref11_Has_j1
    rw [List.take_of_length_le (by omega)] at hn
    rw [decide_eq_false hn] at h
    exact h

/-- The place of the first session of a kind; -1. -/
def idx (p : Rs → Bool) (l : List Rs) : Int :=
  match l.findIdx? p with
  | some i => i
  | none => -1
theorem idx_some {p : Rs → Bool} {l : List Rs} {i : Nat} (hi : i < l.length) (h : p l[i] = true) (hn : ∀ j (hj : j < i), p (l[j]'(by omega)) = false) : idx p l = i := by
  unfold idx
  rw [List.findIdx?_eq_some_iff_getElem.2 ⟨hi, h, fun j hj => by simp [hn j hj]⟩]
theorem idx_none {p : Rs → Bool} {l : List Rs} (hn : ∀ x ∈ l, p x = false) : idx p l = -1 := by
  unfold idx
  rw [List.findIdx?_eq_none_iff.2 hn]

theorem Of_spec {w : World} {g : Rh} {n : Int} {Q : Cont} (hr : RRep w g) (hl : g.sess.length ≤ 8) (h : Q (I (idx (fun s => s.has && decide (s.conn = n)) g.sess)) w) : Ret pg n_lodestarref18_Hub_Of #[pt g.blk 0, I n] Q w := by
  apply lodestarref18_Hub_Of_ok
  unfold lodestarref18_Hub_Of lodestarref18_Hub_Of_j0 lodestarref18_Hub_Of_j2 lodestarref18_Hub_Of_l0
  have hat := hr.at_
  unfold Rh.cells at hat
  refine loopW_intro (fun s w' => ∃ i : Nat, s = (pt g.blk 0, I n, I i) ∧ i ≤ g.sess.length ∧ w' = w ∧ ∀ j (hj : j < g.sess.length), j < i → (g.sess[j].has && decide (g.sess[j].conn = n)) = false)
    (fun s _ => match s.2.2 with | .int _ i => g.sess.length - i.toNat | _ => 0) ⟨0, rfl, Nat.zero_le _, rfl, fun j _ hj => by omega⟩ ?_
  rintro s w1 ⟨i, rfl, hi, rfl, hn⟩ next hnext
  unfold lodestarref18_Hub_Of_l0b
  simp [hat]
  rw [Vec.len73 hr.vl]
  simp
  by_cases hlt : i < g.sess.length
  · rw [ifB_pos (by simpa using hlt)]
    unfold lodestarref18_Hub_Of_j3
    obtain ⟨L, cap, hL⟩ := hr.lat (by intro e; rw [e] at hlt; simp at hlt)
    have hg := List.getElem?_eq_getElem hlt
    have c7 := hL.cell i _ hg 7 _ rfl
    have c8 := hL.cell i _ hg 8 _ rfl
    simp [hat, hL.vl]
    rw [ifK_pos (by simp; omega)]
    simp [c7]
    have stay : (g.sess[i].has && decide (g.sess[i].conn = n)) = false → lodestarref18_Hub_Of_j5 Q (fun x0 x1 x2 => next (x0, x1, x2)) (pt g.blk 0) (I n) (I i) (.bool false) w1 := by
      intro hb
      unfold lodestarref18_Hub_Of_j5 lodestarref18_Hub_Of_j4
      simp
      rw [wr_i64 _ (by omega) (by omega)]
      refine hnext _ _ ⟨i + 1, rfl, by omega, rfl, fun j hj hji => ?_⟩ (by simp; omega)
      by_cases hje : j = i
      · subst hje; exact hb
      · exact hn j hj (by omega)
    by_cases hb : g.sess[i].has
    · rw [hb]
      simp [hat, hL.vl]
      rw [ifK_pos (by simp; omega)]
      simp [c8]
      by_cases he : g.sess[i].conn = n
      · rw [decide_eq_true he]
        unfold lodestarref18_Hub_Of_j5
        simp
        rw [idx_some hlt (by simp [hb, he]) (fun j hj => hn j (by omega) hj)] at h
        exact h
      · rw [decide_eq_false he]
        exact stay (by simp [he])
    · simp only [Bool.not_eq_true] at hb
      rw [hb]
      simp
      exact stay (by simp [hb])
  · rw [ifB_neg (by simpa using hlt)]
    unfold lodestarref18_Hub_Of_j1
    rw [idx_none (fun x hx => by
      obtain ⟨j, hj, rfl⟩ := List.getElem_of_mem hx
      exact hn j hj (by omega))] at h
    exact h

theorem At_spec {w : World} {g : Rh} {tok : Nat} {Q : Cont} (hr : RRep w g) (hl : g.sess.length ≤ 8) (h : Q (I (idx (fun s => decide (s.tok = tok)) g.sess)) w) : Ret pg n_lodestarref18_Hub_At #[pt g.blk 0, .int .u64 tok] Q w := by
  apply lodestarref18_Hub_At_ok
  unfold lodestarref18_Hub_At lodestarref18_Hub_At_j0 lodestarref18_Hub_At_j2 lodestarref18_Hub_At_l0
  have hat := hr.at_
  unfold Rh.cells at hat
  refine loopW_intro (fun s w' => ∃ i : Nat, s = (pt g.blk 0, .int .u64 tok, I i) ∧ i ≤ g.sess.length ∧ w' = w ∧ ∀ j (hj : j < g.sess.length), j < i → decide (g.sess[j].tok = tok) = false)
    (fun s _ => match s.2.2 with | .int _ i => g.sess.length - i.toNat | _ => 0) ⟨0, rfl, Nat.zero_le _, rfl, fun j _ hj => by omega⟩ ?_
  rintro s w1 ⟨i, rfl, hi, rfl, hn⟩ next hnext
  unfold lodestarref18_Hub_At_l0b
  simp [hat]
  rw [Vec.len73 hr.vl]
  simp
  by_cases hlt : i < g.sess.length
  · rw [ifB_pos (by simpa using hlt)]
    obtain ⟨L, cap, hL⟩ := hr.lat (by intro e; rw [e] at hlt; simp at hlt)
    have hg := List.getElem?_eq_getElem hlt
    have c0 := hL.cell i _ hg 0 _ rfl
    simp only [Nat.add_zero] at c0
    simp [hat, hL.vl]
    rw [ifK_pos (by simp; omega)]
    simp [c0]
    by_cases he : g.sess[i].tok = tok
    · rw [ifB_pos (by simp; omega)]
      rw [idx_some hlt (by simp [he]) (fun j hj => hn j (by omega) hj)] at h
      exact h
    · rw [ifB_neg (by simp; omega)]
      simp
      rw [wr_i64 _ (by omega) (by omega)]
      refine hnext _ _ ⟨i + 1, rfl, by omega, rfl, fun j hj hji => ?_⟩ (by simp; omega)
      by_cases hje : j = i
      · subst hje; simpa using he
      · exact hn j hj (by omega)
  · rw [ifB_neg (by simpa using hlt)]
    unfold lodestarref18_Hub_At_j1
    rw [idx_none (fun x hx => by
      obtain ⟨j, hj, rfl⟩ := List.getElem_of_mem hx
      exact hn j hj (by omega))] at h
    exact h

theorem RNew_spec {n : Int} {Q : Cont} {w : World} (h : Q (pt w.heap.size 0) (w.alloc (.cells #[I (sizeOfWin n), I 0, I 0] 114))) : Ret pg n_lodestarref17_New #[I n] Q w := by
  apply lodestarref17_New_ok
  unfold lodestarref17_New
  have e : (if (1 : Int) < (if (8 : Int) < n then 8 else n) then (if (8 : Int) < n then 8 else n) else 1) = (sizeOfWin n : Int) := by
    unfold sizeOfWin; omega
  simp only [b_min2, b_max2, e]
  simp
  exact h

theorem RLimit_spec {w : World} {g : Rh} {L cap k : Nat} {s : Rs} {Q : Cont} (hL : LAt w g L cap) (hk : g.sess[k]? = some s) (h1 : s.had < 4294967296) (h2 : s.size ≤ 8) (h : Q (I (s.abs.limit : Nat)) (drw w)) : Ret pg n_lodestarref17_Window_Limit #[pt L (k * 10 + 4)] Q w := by
  apply lodestarref17_Window_Limit_ok
  unfold lodestarref17_Window_Limit
  have c4 := hL.cell k _ hk 4 _ rfl
  have c5 := hL.cell k _ hk 5 _ rfl
  have c6 := hL.cell k _ hk 6 _ rfl
  simp [c4, c5, c6]
  rw [wr_i64 _ (by omega) (by omega)]
  have e : (if (1073741824 : Int) < (if (s.had : Int) + s.size < 0 then 0 else (s.had : Int) + s.size) then 1073741824 else (if (s.had : Int) + s.size < 0 then 0 else (s.had : Int) + s.size)) = (s.abs.limit : Nat) := by
    show _ = ((min (s.had + s.size) 1073741824 : Nat) : Int)
    omega
  rw [e]
  exact h

/-! ### Tables of answers -/

theorem RAck_spec {w : World} {g : Rh} {L cap k n : Nat} {s : Rs} {Q : Cont} (hr : RRep w g) (hL : LAt w g L cap) (hk : g.sess[k]? = some s)
    (h1 : s.ans.length < n → Q (I 1) w)
    (h2 : n ≤ s.ans.length → ∀ w', Ext [L] w w' → w'.heap.size = w.heap.size → RRep w' (g.setR k { s with acked := max s.acked n }) → LAt w' (g.setR k { s with acked := max s.acked n }) L cap → Q (I 0) w') : Ret pg n_lodestarref16_Table_Ack #[pt L (k * 10 + 2), I n] Q w := by
  apply lodestarref16_Table_Ack_ok
  unfold lodestarref16_Table_Ack
  have hs := hr.sess s (List.mem_of_getElem? hk)
  have c2 := hL.cell k _ hk 2 _ rfl
  have c3 := hL.cell k _ hk 3 _ rfl
  simp [c2]
  rw [Vec.len42 hs.va]
  simp
  by_cases hn : s.ans.length < n
  · rw [ifB_pos (by simpa using hn)]
    exact h1 hn
  · rw [ifB_neg (by simpa using hn)]
    simp [c3]
    have e : (if s.acked < n then (n : Int) else (s.acked : Int)) = ((max s.acked n : Nat) : Int) := by omega
    rw [e]
    obtain ⟨cur, g1, g2, g3, g4⟩ := hr.write (k := k) (j := 3) (s' := { s with acked := max s.acked n }) (v := I (max s.acked n : Nat)) hL hk (by decide) rfl rfl
      (fun w' x => { (hs.ext x fun b hb e => by simp at hb; rw [hb, hL.own] at e; cases e) with ack := by show max s.acked n ≤ s.ans.length; have := hs.ack; omega })
    rw [g1, objK_some (by omega)]
    simp
    exact h2 (by omega) _ (Ext.put (Ext.refl _ _) (.inl (by simp))) (by simp) (by simpa using g3) (by simpa using g4)

theorem RAsk_spec {w : World} {g : Rh} {L cap k r : Nat} {s : Rs} {Q : Cont} (hr : RRep w g) (hL : LAt w g L cap) (hk : g.sess[k]? = some s) (hb : r < 4294967296)
    (h : ∀ w', Ext [] w w' → Q (.tuple #[.agg (s.abs.ask r).1, I (s.abs.ask r).2]) w') : Ret pg n_lodestarref16_Table_Ask #[pt L (k * 10 + 2), I r] Q w := by
  apply lodestarref16_Table_Ask_ok
  unfold lodestarref16_Table_Ask
  have hs := hr.sess s (List.mem_of_getElem? hk)
  have hdone : s.acked + (s.ans.drop s.acked).length = s.ans.length := by have := hs.ack; simp; omega
  have hLlt : L < w.heap.size := hr.lt L (by rw [hL.own]; simp)
  have hne : L ≠ w.heap.size := by omega
  have c2 := hL.cell k _ hk 2 _ rfl
  have c3 := hL.cell k _ hk 3 _ rfl
  rw [al_msg]
  have hz : ∀ m : Msg, MsgOk m → ∀ v : Int, st 37 (pt w.heap.size 0) (.agg m) (fun _ => (fun w' => ldq 37 (pt w.heap.size 0) (fun x => Q (.tuple #[x, (.int .i64 v)]) w') w')) (w.alloc (.cells zMsg 37)) = Q (.tuple #[.agg m, .int .i64 v]) (put (w.alloc (.cells zMsg 37)) w.heap.size (.cells m 37 (0, 0))) := by
    intro m hm v
    rw [st_msg _ hm _ _ (c := zMsg) (T := 37) (by simp) rfl]
    show ldq 37 (pt w.heap.size 0) _ _ = _
    rw [ldq_msg _ _ _ (m := m) (T := 37) (fr := (0, 0)) (by simp) hm.size]
  have hext : ∀ o, Ext [] w (put (w.alloc (.cells zMsg 37)) w.heap.size o) := fun o => ((Ext.refl _ _).alloc).put (.inr (Nat.le_refl _))
  have out : ∀ m : Msg, MsgOk m → ∀ v : Nat, s.abs.ask r = (m, v) → st 37 (pt w.heap.size 0) (.agg m) (fun _ => (fun w' => ldq 37 (pt w.heap.size 0) (fun x => Q (.tuple #[x, (.int .i64 v)]) w') w')) (w.alloc (.cells zMsg 37)) := by
    intro m hm v he
    rw [hz m hm v]
    have := h _ (hext (.cells m 37 (0, 0)))
    rwa [he] at this
  have hask : s.abs.ask r = if r ≤ s.acked then (zMsg, 3) else if r ≤ s.ans.length then ((s.ans[r - 1]?).getD zMsg, 2) else if r = s.ans.length + 1 then (zMsg, 1) else (zMsg, 4) := by
    unfold MS.ask Tb.ask MS.tb Tb.done
    simp only [Rs.abs, hdone]
    by_cases h1 : r ≤ s.acked
    · rw [if_pos h1, if_pos h1]
    · rw [if_neg h1, if_neg h1]
      simp only [List.getElem?_drop]
      rw [show s.acked + (r - (s.acked + 1)) = r - 1 from by omega]
  simp [c3, hne]
  by_cases h1 : r ≤ s.acked
  · rw [ifB_pos (by simpa using h1), bd_msg]
    exact out zMsg zMsg_ok 3 (by rw [hask, if_pos h1])
  rw [ifB_neg (by simpa using h1)]
  simp [c2, hne]
  rw [Vec.len42 hs.va]
  simp
  by_cases h2 : r ≤ s.ans.length
  · rw [ifB_pos (by simpa using h2)]
    simp [c2, hne]
    rw [wr_i64 _ (by omega) (by omega)]
    have hlt : r - 1 < s.ans.length := by omega
    have hok := hs.msgs _ (List.getElem_mem hlt)
    obtain ⟨G, cap', cur, hva, hg, hrow⟩ := Vec.rowAt mL_len hs.va (List.getElem?_eq_getElem hlt)
    rw [hva]
    simp
    rw [ifK_pos (by simp; omega)]
    have hG : G < w.heap.size := lt_of_hp hg
    have hgG : hp (w.alloc (.cells zMsg 37)) G = some (.cells cur 37 (0, 0)) := by rw [hp_alloc, if_neg (by omega)]; exact hg
    have e1 : ((r : Int) - 1).toNat = r - 1 := by omega
    rw [e1, Nat.zero_add, ld_api_Message, hgG, hrow, optK_some, mL_ok hok.size, Array.toArray_toList]
    refine out _ hok 2 ?_
    rw [hask, if_neg h1, if_pos h2, List.getElem?_eq_getElem hlt]
    rfl
  rw [ifB_neg (by simpa using h2)]
  simp [c2, hne]
  rw [Vec.len42 hs.va]
  simp
  rw [wr_i64 _ (by have := hs.len; omega) (by have := hs.len; omega)]
  by_cases h3 : r = s.ans.length + 1
  · rw [ifB_pos (by simp; omega), bd_msg]
    exact out zMsg zMsg_ok 1 (by rw [hask, if_neg h1, if_neg h2, if_pos h3])
  · rw [ifB_neg (by simp; omega), bd_msg]
    exact out zMsg zMsg_ok 4 (by rw [hask, if_neg h1, if_neg h2, if_neg h3])

/-! ### From one state to another -/

/-- From one world to another with the reference's hub gone from g to g'. -/
structure RStep (w : World) (g : Rh) (w' : World) (g' : Rh) : Prop where
  os : w'.os = w.os
  tape : w'.tape = w.tape
  output : w'.output = w.output
  size : w.heap.size ≤ w'.heap.size
  same : ∀ b, b < w.heap.size → g.own b = .none → hp w' b = hp w b
  own : ∀ b, b < w.heap.size → g.own b = .none → g'.own b = .none
  rep : RRep w' g'
  blk : g'.blk = g.blk
  z : g.Z → g'.Z

theorem RStep.trans {w w1 w2 : World} {g g1 g2 : Rh} (h : RStep w g w1 g1) (k : RStep w1 g1 w2 g2) : RStep w g w2 g2 :=
  ⟨k.os.trans h.os, k.tape.trans h.tape, k.output.trans h.output, Nat.le_trans h.size k.size,
    fun b hb ho => (k.same b (Nat.lt_of_lt_of_le hb h.size) (h.own b hb ho)).trans (h.same b hb ho),
    fun b hb ho => k.own b (Nat.lt_of_lt_of_le hb h.size) (h.own b hb ho), k.rep, k.blk.trans h.blk, fun hz => k.z (h.z hz)⟩
theorem RStep.of {w w' : World} {g g' : Rh} {S : List Nat} (e : Ext S w w') (hS : ∀ b ∈ S, b < w.heap.size → g.own b ≠ .none) (ho : ∀ b, b < w.heap.size → g.own b = .none → g'.own b = .none) (hb : g'.blk = g.blk) (hr : RRep w' g') (hz : g.Z → g'.Z) : RStep w g w' g' :=
  ⟨e.os, e.tape, e.output, e.size, fun b hb hn => e.same b hb (fun hs => hS b hs hb hn), ho, hr, hb, hz⟩
theorem RStep.refl {w : World} {g : Rh} (hr : RRep w g) : RStep w g w g := RStep.of (Ext.refl [] w) (by simp) (fun _ _ h => h) rfl hr id
theorem RStep.idle {w w' : World} {g : Rh} (hr : RRep w g) (e : Ext [] w w') : RStep w g w' g := RStep.of e (by simp) (fun _ _ h => h) rfl (hr.ext e (by simp)) id
/-- Blocks that are new since the beginning, and none of the hub's, were written. -/
theorem RStep.fresh {w w1 w2 : World} {g g1 : Rh} {S : List Nat} (st : RStep w g w1 g1) (x : Ext S w1 w2) (hS : ∀ b ∈ S, w.heap.size ≤ b ∧ g1.own b = .none) : RStep w g w2 g1 :=
  ⟨x.os.trans st.os, x.tape.trans st.tape, x.output.trans st.output, Nat.le_trans st.size x.size, fun b hb hn => (x.same b (Nat.lt_of_lt_of_le hb st.size) (fun hs => by have := (hS b hs).1; omega)).trans (st.same b hb hn), st.own,
    st.rep.ext x (fun b hb => (hS b hb).2), st.blk, st.z⟩

/-- New blocks get an owner. -/
theorem RRep.reown {w : World} {g : Rh} (h : RRep w g) (own : Nat → Tag) (ho : ∀ b, g.own b ≠ .none → own b = g.own b) (hl : ∀ b, own b ≠ .none → b < w.heap.size) : RRep w { g with own := own } := by
  refine { h with sess := ?_, o0 := ?_, o1 := ?_, o2 := ?_, lt := hl }
  · exact fun s hs => { h.sess s hs with own := fun b hb => by have := (h.sess s hs).own b hb; show own b = _; rw [ho b (by rw [this]; simp)]; exact this }
  · show own g.blk = _; rw [ho _ (by rw [h.o0]; simp)]; exact h.o0
  · exact fun b hb => by show own b = _; rw [ho _ (by rw [h.o1 b hb]; simp)]; exact h.o1 b hb
  · exact fun b hb => by show own b = _; rw [ho _ (by rw [h.o2 b hb]; simp)]; exact h.o2 b hb

theorem setR_abs {g : Rh} {k : Nat} {s s' : Rs} (hn : (g.sess.map (·.tok)).Nodup) (hk : g.sess[k]? = some s) (ht : s'.tok = s.tok) : (g.setR k s').abs = g.abs.put s'.abs := by
  unfold Rh.setR Rh.abs MH.put
  simp only [List.map_map]
  congr 1
  apply List.ext_getElem?
  intro i
  rw [List.getElem?_map, List.getElem?_map, List.getElem?_set]
  have hkl := List.getElem?_eq_some_iff.1 hk
  obtain ⟨hkl, hks⟩ := hkl
  by_cases hi : k = i
  · subst hi
    simp only [if_true, hkl, hk, Option.map_some, Function.comp_apply]
    rw [if_pos (show s.abs.tok = s'.abs.tok from ht.symm)]
  · rw [if_neg hi]
    cases hx : g.sess[i]? with
    | none => rfl
    | some x =>
      simp only [Option.map_some, Function.comp_apply]
      rw [if_neg]
      intro e
      have e' : x.tok = s.tok := e.trans ht
      obtain ⟨hil, hix⟩ := List.getElem?_eq_some_iff.1 hx
      have := (List.getElem_inj (h₀ := by simpa using hkl) (h₁ := by simpa using hil) hn).1 (by simp [hks, hix, e'])
      exact hi this

theorem Z_set {g : Rh} {k : Nat} {s s' : Rs} (hz : g.Z) (hk : g.sess[k]? = some s) (h1 : s'.has = s.has) (h2 : s'.conn = s.conn) : (g.setR k s').Z := by
  intro x hx hh
  rcases List.mem_or_eq_of_mem_set hx with hx | rfl
  · exact hz x hx hh
  · rw [h2]; exact hz s (List.mem_of_getElem? hk) (by rw [← h1]; exact hh)

theorem RKeep_spec {w : World} {g : Rh} {L cap k r : Nat} {s : Rs} {m : Msg} {Q : Cont} (hr : RRep w g) (hL : LAt w g L cap) (hk : g.sess[k]? = some s) (hb : r < 4294967296) (hm : MsgOk m) (hlen' : s.ans.length + 1 < 1073741824)
    (h : ∀ w' g', RStep w g w' g' → g'.abs = g.abs.put (s.abs.keep r m) → Q (I (s.abs.tb.keepE r)) w') : Ret pg n_lodestarref16_Table_Keep #[pt L (k * 10 + 2), I r, .agg m] Q w := by
  apply lodestarref16_Table_Keep_ok
  unfold lodestarref16_Table_Keep
  have hs := hr.sess s (List.mem_of_getElem? hk)
  have hdone : s.acked + (s.ans.drop s.acked).length = s.ans.length := by have := hs.ack; simp; omega
  have hLlt : L < w.heap.size := hr.lt L (by rw [hL.own]; simp)
  have hne : L ≠ w.heap.size := by omega
  have c2 := hL.cell k _ hk 2 _ rfl
  have c3 := hL.cell k _ hk 3 _ rfl
  have hE : s.abs.tb.keepE r = if r ≠ s.ans.length + 1 then 1 else if 16 ≤ s.ans.length - s.acked then 4 else 0 := by
    unfold Tb.keepE MS.tb Tb.done
    simp only [Rs.abs, hdone]
    by_cases h1 : r ≠ s.ans.length + 1
    · rw [if_pos h1, if_pos h1]
    · rw [if_neg h1, if_neg h1, if_neg (by omega)]
      simp
  have hput : g.abs.put s.abs = g.abs := by
    have := setR_abs (s' := s) hr.ndS hk rfl
    rw [← this]
    unfold Rh.setR
    congr 2
    have hkl := List.getElem?_eq_some_iff.1 hk
    obtain ⟨hkl, rfl⟩ := hkl
    exact List.set_getElem_self hkl
  have bad : ∀ e : Nat, s.abs.tb.keepE r = e → e ≠ 0 → ∀ w', Ext [] w w' → Q (I e) w' := by
    intro e he hne w' x
    have := h w' g (RStep.idle hr x) (by unfold MS.keep Tb.keep; rw [if_neg (by omega)]; exact hput.symm)
    rwa [he] at this
  simp [c2, hne]
  rw [Vec.len42 hs.va]
  simp
  rw [wr_i64 _ (by omega) (by omega)]
  by_cases h1 : r ≠ s.ans.length + 1
  · rw [show (!decide ((r : Int) = (s.ans.length : Int) + 1)) = true from by simp; omega]
    simp
    exact bad 1 (by rw [hE, if_pos h1]) (by decide) _ ((Ext.refl _ _).alloc)
  rw [show (!decide ((r : Int) = (s.ans.length : Int) + 1)) = false from by simp; omega]
  simp [c2, c3, hne]
  rw [Vec.len42q hs.va]
  simp [c3, hne]
  rw [wr_i64 _ (by have := hs.ack; omega) (by omega)]
  by_cases h2 : 16 ≤ s.ans.length - s.acked
  · rw [ifB_pos (by have := hs.ack; simp; omega)]
    exact bad 4 (by rw [hE, if_neg h1, if_pos h2]) (by decide) _ (((Ext.refl _ _).alloc).drw)
  rw [ifB_neg (by have := hs.ack; simp; omega)]
  have e0 : s.abs.tb.keepE r = 0 := by rw [hE, if_neg h1, if_neg h2]
  have hm1 : hp (w.alloc (.cells m 37)) w.heap.size = some (.cells m 37 (0, 0)) := by simp
  simp [c2, hne, rowOf_whole _ _ _ _ hm.size]
  rw [bs_msg1 hm.size]
  simp [c2, hne]
  have hne2 : L ≠ w.heap.size + 1 := by omega
  simp [c2, hne2]
  have hw1 : ∃ w1, w1 = (drw (drw (w.alloc (.cells m 37)))).alloc (.cells m 37) := ⟨_, rfl⟩
  obtain ⟨w1, hw1⟩ := hw1
  rw [← hw1]
  have x1 : Ext [] w w1 := by rw [hw1]; exact (((Ext.refl _ _).alloc).drw.drw).alloc
  have hs1 : w1.heap.size = w.heap.size + 2 := by rw [hw1]; simp
  have hm2 : hp w1 (w.heap.size + 1) = some (.cells m 37 (0, 0)) := by rw [hw1]; simp
  have hr1 := hr.ext x1 (by simp)
  have hv1 := (hr1.sess s (List.mem_of_getElem? hk)).va
  refine append_spec (t := 42) (e := 37) (z := .agg zMsg) (sz := 28) (bytes := 320) (by kernel_rfl) (by kernel_rfl) rfl (by decide) hv1 (g := w.heap.size + 1) (m := 1) (cs := m) hm2 (by rw [hm.size]) hm.one (by unfold maxLen; omega) (by omega) (Nat.zero_le _) fun v' w2 x2 hv2 hv3 hob => ?_
  have hr2 : RRep w2 g := by
    have hO : ∀ b ∈ ob s.va, g.own b = .sess s.tok 0 := hs.own
    have nS : ∀ b, g.own b ≠ .sess s.tok 0 → b ∉ ob s.va := fun b hb hh => hb (hO b hh)
    refine { hr1 with at_ := ?_, vc := ?_, vl := ?_, sess := ?_, lt := ?_ }
    · exact x2.at hr1.at_ (nS _ (by rw [hr.o0]; simp))
    · exact hr1.vc.ext x2 fun b hb => nS b (by rw [hr.o1 b hb]; simp)
    · exact hr1.vl.ext x2 fun b hb => nS b (by rw [hr.o2 b hb]; simp)
    · intro t ht
      by_cases hts : t = s
      · subst hts
        exact { hr1.sess t ht with va := hv3 }
      · refine (hr1.sess t ht).ext x2 fun b hb e => ?_
        rw [hO b hb] at e
        injection e with e _
        have := nodup_inj hr.ndS (List.mem_of_getElem? hk) ht e
        exact hts this.symm
    · exact fun b hb => Nat.lt_of_lt_of_le (hr1.lt b hb) x2.size
  let own' : Nat → Tag := fun b => if b ∈ ob v' then .sess s.tok 0 else g.own b
  have hown' : ∀ b, g.own b ≠ .none → own' b = g.own b := by
    intro b hb
    show (if b ∈ ob v' then Tag.sess s.tok 0 else g.own b) = _
    split
    · rename_i hbv
      rcases hob with e | e
      · rw [e] at hbv; exact (hs.own b hbv).symm
      · rw [e] at hbv
        simp at hbv
        have := hr1.lt b hb
        omega
    · rfl
  have hownL : ∀ b, own' b ≠ .none → b < w2.heap.size := by
    intro b hb
    by_cases hbv : b ∈ ob v'
    · exact (hv2.ob_ge b hbv).2
    · have e : own' b = g.own b := if_neg hbv
      rw [e] at hb
      exact hr2.lt b hb
  have hr3 : RRep w2 { g with own := own' } := hr2.reown own' hown' hownL
  have hL3 : LAt w2 { g with own := own' } L cap := by
    obtain ⟨L', cap', hL'⟩ := hr3.lat (by intro e; have e' : g.sess = [] := e; rw [e'] at hk; simp at hk)
    have e2 := hL'.vl
    have e1 := hL.vl
    simp only at e2
    rw [e1] at e2
    injection e2 with e2 _ e3
    injection e2 with e2
    injection e2 with e2
    subst e2
    subst e3
    exact hL'
  let s' : Rs := { s with va := v', ans := s.ans ++ [m] }
  have hflat : flatM s.ans ++ m.toList = flatM s'.ans := by
    show _ = flatM (s.ans ++ [m])
    unfold flatM
    rw [flatL_append, flatL_one, mL_ok hm.size]
  rw [hflat] at hv2
  have hs2 := hr3.sess s (List.mem_of_getElem? hk)
  obtain ⟨cur, g1, g2, g3, g4⟩ := hr3.write (k := k) (j := 2) (s' := s') (v := v') hL3 hk (by decide) rfl rfl
    (fun w' x => by
      have hlen : s'.ans.length = s.ans.length + 1 := by show (s.ans ++ [m]).length = _; simp
      have f1 : Vec w' 0 37 28 s'.va s'.ans.length (flatM s'.ans) := by
        rw [hlen]
        refine hv2.ext x fun b hb hbL => ?_
        simp at hbL
        subst hbL
        have e1 : own' b = .sess s.tok 0 := if_pos hb
        have e2 : own' b = .hub 2 := hL3.own
        rw [e1] at e2; cases e2
      have f2 : ∀ x ∈ s'.ans, MsgOk x := by
        intro x hx
        rcases List.mem_append.1 hx with hx | hx
        · exact hs.msgs x hx
        · simp at hx; subst hx; exact hm
      exact ⟨f1, fun b hb => if_pos hb, f2, by rw [hlen]; exact Nat.le_succ_of_le hs.ack, by rw [hlen]; exact hlen', hs.hadB, hs.s1, hs.s8, hs.caps, hs.since⟩)
  simp
  have hone : v'.oneCell' = true := by obtain ⟨a, c, rfl⟩ := hv2.len; rfl
  rw [hone, ifK_true, g1, objK_some (by omega)]
  simp
  have h3 : RStep w g (put w2 L (.cells (cur.setIfInBounds (k * 10 + 2) v') 116 (0, 0))) (({ g with own := own' } : Rh).setR k s') := by
    have x3 : Ext [L] w2 (put w2 L (.cells (cur.setIfInBounds (k * 10 + 2) v') 116 (0, 0))) := Ext.put (Ext.refl _ _) (.inl (by simp))
    have x4 : Ext (ob s.va ++ [L]) w (put w2 L (.cells (cur.setIfInBounds (k * 10 + 2) v') 116 (0, 0))) :=
      ((x1.mono (by simp)).trans (x2.mono (T := ob s.va ++ [L]) (fun b hb => List.mem_append_left _ hb)) (fun b hb => .inl hb)).trans x3 (fun b hb => .inl (List.mem_append_right _ hb))
    refine RStep.of x4 (fun b hb _ => ?_) (fun b hb hn => ?_) rfl g3 (fun hz => (Z_set hz hk rfl rfl : Rh.Z (g.setR k s')))
    · rcases List.mem_append.1 hb with hb | hb
      · rw [hs.own b hb]; simp
      · simp at hb; rw [hb, hL.own]; simp
    · show (if b ∈ ob v' then Tag.sess s.tok 0 else g.own b) = _
      rw [if_neg]
      · exact hn
      · intro hbv
        rcases hob with e | e
        · rw [e] at hbv; rw [hs.own b hbv] at hn; cases hn
        · rw [e] at hbv; simp at hbv; omega
  have hab : (({ g with own := own' } : Rh).setR k s').abs = g.abs.put (s.abs.keep r m) := by
    rw [setR_abs (s' := s') hr3.ndS hk rfl]
    show g.abs.put s'.abs = _
    congr 1
    unfold MS.keep Tb.keep
    rw [if_pos e0]
    simp only [MS.tb, Rs.abs]
    congr 1
    show (s.ans ++ [m]).drop s.acked = _
    rw [List.drop_append_of_le_length hs.ack]
  have := h _ _ h3 hab
  rwa [e0] at this
end Go.Proofs.Ytpdcllhmbjnooaa
