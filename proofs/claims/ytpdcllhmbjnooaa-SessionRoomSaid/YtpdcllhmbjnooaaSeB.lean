/- Sessions: the tables of answers, as the program keeps them. -/
import Derived.Test.YtpdcllhmbjnooaaSeA
namespace Go.Proofs.Ytpdcllhmbjnooaa
open Go.Dc
set_option maxRecDepth 10000

abbrev Msg := Array Value
structure MsgOk (m : Msg) : Prop where
  size : m.size = 28
  one : ∀ v ∈ m, v.oneCell' = true

theorem one_of_all {m : Msg} (h : m.toList.all Value.oneCell' = true) : ∀ v ∈ m, v.oneCell' = true := fun v hv => List.all_eq_true.1 h v (by simpa using hv)

def zMsg : Msg := #[(.int .u8 0), (.int .u32 0), (.int .u32 0), (.int .u64 0), (.int .u8 0), (.int .u32 0), (.string ⟨#[]⟩), (.string ⟨#[]⟩), (.int .u8 0), (.int .u8 0), (.bool false), (.int .u8 0), (.int .u16 0), (.slice none 0 0), (.int .u32 0), (.slice none 0 0), (.int .u16 0), (.int .u16 0), (.slice none 0 0), (.slice none 0 0), (.slice none 0 0), (.int .u32 0), (.int .u32 0), (.slice none 0 0), (.int .u64 0), (.slice none 0 0), (.slice none 0 0), (.slice none 0 0)]
theorem zMsg_ok : MsgOk zMsg := ⟨rfl, one_of_all rfl⟩
theorem al_msg (k : Cont) (w : World) : al 37 k w = k (pt w.heap.size 0) (w.alloc (.cells zMsg 37)) := al_api_Message k w
theorem bd_msg (k : Cont) (w : World) : bd 37 #[] k w = k (.agg zMsg) w := bd_api_Message_ k w
theorem st_msg (b : Nat) {m : Msg} (h : MsgOk m) (k : Cont) (w : World) {c : Array Value} {T : TypeId} (hb : hp w b = some (.cells c T (0, 0))) (hc : c.size = 28) : st 37 (pt b 0) (.agg m) k w = k undef (put w b (.cells m T (0, 0))) := by
  rw [st_api_Message b 0 m, h.size, allOne_iff.2 h.one, hb, objK_some (by omega), splice_whole _ _ (by rw [hc, h.size])]; rfl
theorem ld_msg (b : Nat) (k : Cont) (w : World) {m : Msg} {T : TypeId} {fr : Nat × Nat} (hb : hp w b = some (.cells m T fr)) (hm : m.size = 28) : ld 37 (pt b 0) k w = k (.agg m) w := by
  rw [ld_api_Message, hb, rowOf_whole _ _ _ _ hm, optK_some]
theorem ldq_msg (b : Nat) (k : Value → Prop) (w : World) {m : Msg} {T : TypeId} {fr : Nat × Nat} (hb : hp w b = some (.cells m T fr)) (hm : m.size = 28) : ldq 37 (pt b 0) k w = k (.agg m) := by
  rw [ldq_api_Message, hb, rowOf_whole _ _ _ _ hm, optK_some]

structure Tb where
  blk : Nat
  map : Nat
  acked : Nat
  msgs : List Msg

def Tb.done (t : Tb) : Nat := t.acked + t.msgs.length
def entsFrom : Nat → List Msg → List (Int × Value)
  | _, [] => []
  | k, m :: ms => ((k : Int), .agg m) :: entsFrom (k + 1) ms

structure TbRep (w : World) (t : Tb) : Prop where
  at_ : hp w t.blk = some (.cells #[.int .u32 t.done, .int .u32 t.acked, .map (some t.map)] 128 (0, 0))
  map : MapIs (fun n : Int => Value.int .u32 n) (hp w t.map) (entsFrom (t.acked + 1) t.msgs)
  le : t.done ≤ 1073741824
  room : t.msgs.length ≤ 16
  msgs : ∀ m ∈ t.msgs, MsgOk m
  ne : t.blk ≠ t.map

theorem TbRep.mapLt {w : World} {t : Tb} (h : TbRep w t) : t.map < w.heap.size := by
  obtain ⟨es, c, h1, _⟩ := h.map
  exact lt_of_hp h1
theorem TbRep.ext {w w' : World} {t : Tb} {S : List Nat} (h : TbRep w t) (e : Ext S w w') (h1 : t.blk ∉ S) (h2 : t.map ∉ S) : TbRep w' t :=
  ⟨e.at h.at_ h1, by rw [e.same _ h.mapLt h2]; exact h.map, h.le, h.room, h.msgs, h.ne⟩

theorem getM_ents (ms : List Msg) : ∀ (k n : Nat), getM (entsFrom k ms) (n : Int) = if k ≤ n ∧ n < k + ms.length then (ms[n - k]?).map .agg else none := by
  induction ms with
  | nil => intro k n; simp [entsFrom, getM]
  | cons m ms ih =>
    intro k n
    unfold entsFrom getM
    by_cases h : (n : Int) = (k : Int)
    · have : n = k := by omega
      subst this
      simp
    · rw [if_neg h, ih]
      have hne : n ≠ k := by omega
      by_cases h2 : k + 1 ≤ n ∧ n < k + 1 + ms.length
      · rw [if_pos h2, if_pos (by simp; omega)]
        rw [show n - k = (n - (k + 1)) + 1 from by omega]
        simp
      · rw [if_neg h2, if_neg (by simp; omega)]
theorem setM_ents (m : Msg) (ms : List Msg) : ∀ k : Nat, setM (entsFrom k ms) ((k + ms.length : Nat) : Int) (.agg m) = entsFrom k (ms ++ [m]) := by
  induction ms with
  | nil => intro k; simp [entsFrom, setM]
  | cons x ms ih =>
    intro k
    unfold entsFrom setM
    rw [if_neg (by simp; omega)]
    have := ih (k + 1)
    rw [show k + (x :: ms).length = k + 1 + ms.length from by simp; omega, this]
    rfl
theorem delM_ents (k : Nat) (ms : List Msg) : delM (entsFrom k ms) (k : Int) = entsFrom (k + 1) (ms.drop 1) := by
  cases ms with
  | nil => rfl
  | cons m ms => simp [entsFrom, delM]
theorem length_ents (k : Nat) (ms : List Msg) : (entsFrom k ms).length = ms.length := by
  induction ms generalizing k with
  | nil => rfl
  | cons m ms ih => simp [entsFrom, ih]

theorem dedup_New_spec (Q : Cont) (w : World) (h : ∀ w', Ext [] w w' → w'.heap.size = w.heap.size + 2 → TbRep w' ⟨w.heap.size + 1, w.heap.size, 0, []⟩ → Q (pt (w.heap.size + 1) 0) w') : Ret pg n_dedup_New #[] Q w := by
  apply dedup_New_ok
  unfold dedup_New
  simp
  refine h _ ((Ext.refl _ _).alloc).alloc (by simp) ⟨by simp [Tb.done], by simp; exact MapIs.new _, by simp [Tb.done], by simp, by simp, by simp⟩

theorem dedup_Done_spec {t : Tb} {Q : Cont} {w : World} (ht : TbRep w t) (h : Q (.int .u32 t.done) w) : Ret pg n_dedup_Table_Done #[pt t.blk 0] Q w := by
  apply dedup_Table_Done_ok
  unfold dedup_Table_Done
  simp [ht.at_]
  exact h

/-- What asking for a number tells. -/
def Tb.ask (t : Tb) (r : Nat) : Msg × Nat :=
  if r ≤ t.acked then (zMsg, 3)
  else if r ≤ t.done then ((t.msgs[r - (t.acked + 1)]?).getD zMsg, 2)
  else if r = t.done + 1 then (zMsg, 1)
  else (zMsg, 4)

theorem Tb.ask_ok {w : World} {t : Tb} (ht : TbRep w t) (r : Nat) : MsgOk (t.ask r).1 := by
  unfold Tb.ask
  split
  · exact zMsg_ok
  split
  · cases h : t.msgs[r - (t.acked + 1)]? with
    | none => exact zMsg_ok
    | some m => exact ht.msgs m (List.mem_of_getElem? h)
  split
  · exact zMsg_ok
  · exact zMsg_ok

theorem dedup_Ask_spec {t : Tb} {r : Nat} {Q : Cont} {w : World} (ht : TbRep w t) (hr : r < 4294967296) (h : ∀ w', Ext [] w w' → Q (.tuple #[.agg (t.ask r).1, .int .u8 (t.ask r).2]) w') :
    Ret pg n_dedup_Table_Ask #[pt t.blk 0, .int .u32 r] Q w := by
  apply dedup_Table_Ask_ok
  unfold dedup_Table_Ask
  rw [al_msg]
  have hlt := lt_of_hp ht.at_
  have hml := ht.mapLt
  have e1 : t.blk ≠ w.heap.size := by omega
  have e2 : t.map ≠ w.heap.size := by omega
  have hm : MapIs (fun n : Int => Value.int .u32 n) (hp (w.alloc (.cells zMsg 37)) t.map) (entsFrom (t.acked + 1) t.msgs) := by rw [hp_alloc, if_neg e2]; exact ht.map
  have hz : ∀ m : Msg, MsgOk m → ∀ v : Int, st 37 (pt w.heap.size 0) (.agg m) (fun _ => (fun w' => ldq 37 (pt w.heap.size 0) (fun x => Q (.tuple #[x, (.int .u8 v)]) w') w')) (w.alloc (.cells zMsg 37)) = Q (.tuple #[.agg m, .int .u8 v]) (put (w.alloc (.cells zMsg 37)) w.heap.size (.cells m 37 (0, 0))) := by
    intro m hm v
    rw [st_msg _ hm _ _ (c := zMsg) (T := 37) (by simp) rfl]
    show ldq 37 (pt w.heap.size 0) _ _ = _
    rw [ldq_msg _ _ _ (m := m) (T := 37) (fr := (0, 0)) (by simp) hm.size]
  have hext : ∀ o, Ext [] w (put (w.alloc (.cells zMsg 37)) w.heap.size o) := fun o => ((Ext.refl _ _).alloc).put (.inr (Nat.le_refl _))
  simp [ht.at_, e1]
  by_cases h1 : r ≤ t.acked
  · rw [ifB_pos (by simp; omega), bd_msg, hz _ zMsg_ok]
    have := h _ (hext (.cells zMsg 37 (0, 0)))
    simpa [Tb.ask, h1] using this
  rw [ifB_neg (by simp; omega)]
  simp [ht.at_, e1]
  by_cases h2 : r ≤ t.done
  · rw [ifB_pos (by simp; omega)]
    simp [ht.at_, e1]
    rw [lk_map_uint32_api_Message hm, getM_ents, if_pos (by unfold Tb.done at h2; omega)]
    have hx : r - (t.acked + 1) < t.msgs.length := by unfold Tb.done at h2; omega
    rw [List.getElem?_eq_getElem hx]
    have hok := ht.msgs _ (List.getElem_mem hx)
    have := h _ (hext (.cells t.msgs[r - (t.acked + 1)] 37 (0, 0)))
    simp only [Option.map_some, Option.getD_some]
    rw [hz _ hok]
    simpa [Tb.ask, h1, h2, List.getElem?_eq_getElem hx] using this
  rw [ifB_neg (by simp; omega)]
  simp [ht.at_, e1]
  rw [wrap_u32 _ (by omega) (by omega)]
  by_cases h3 : r = t.done + 1
  · rw [ifB_pos (by simp; omega), bd_msg, hz _ zMsg_ok]
    have := h _ (hext (.cells zMsg 37 (0, 0)))
    have ea : t.ask r = (zMsg, 1) := by unfold Tb.ask; rw [if_neg h1, if_neg h2, if_pos h3]
    simpa [ea] using this
  · rw [ifB_neg (by simp; omega), bd_msg, hz _ zMsg_ok]
    have := h _ (hext (.cells zMsg 37 (0, 0)))
    simpa [Tb.ask, h1, h2, h3] using this

/-- Keeping an answer: the error's number; the table then. -/
def Tb.keepE (t : Tb) (r : Nat) : Nat :=
  if r ≠ t.done + 1 then 1 else if 1073741824 ≤ t.done then 6 else if 16 ≤ t.msgs.length then 4 else 0
def Tb.keep (t : Tb) (r : Nat) (m : Msg) : Tb := if t.keepE r = 0 then { t with msgs := t.msgs ++ [m] } else t

theorem dedup_Keep_spec {t : Tb} {r : Nat} {m : Msg} {Q : Cont} {w : World} (ht : TbRep w t) (hr : r < 4294967296) (hm : MsgOk m)
    (h : ∀ w', Ext [t.blk, t.map] w w' → TbRep w' (t.keep r m) → Q (I (t.keepE r)) w') : Ret pg n_dedup_Table_Keep #[pt t.blk 0, .int .u32 r, .agg m] Q w := by
  apply dedup_Table_Keep_ok
  unfold dedup_Table_Keep
  have hlt := lt_of_hp ht.at_
  have hml := ht.mapLt
  have e1 : t.blk ≠ w.heap.size := by omega
  have e2 : t.map ≠ w.heap.size := by omega
  have hle := ht.le
  simp
  have hext0 : Ext [t.blk, t.map] w (w.alloc (.cells m 37)) := (Ext.refl _ _).alloc
  have ht0 : TbRep (w.alloc (.cells m 37)) t := ht.ext ((Ext.refl [] _).alloc) (by simp) (by simp)
  have bad : ∀ e : Nat, t.keepE r = e → e ≠ 0 → Q (I e) (w.alloc (.cells m 37)) := by
    intro e he hne
    have := h _ hext0 (by unfold Tb.keep; rw [if_neg (by omega)]; exact ht0)
    rwa [he] at this
  have start : dedup_Table_Keep_j0 Q (pt t.blk 0) (.int .u32 r) (pt w.heap.size 0) (w.alloc (.cells m 37)) = dedup_Table_Keep_j2 Q (pt t.blk 0) (.int .u32 r) (pt w.heap.size 0) (.bool (decide (r ≠ t.done + 1))) (w.alloc (.cells m 37)) := by
    unfold dedup_Table_Keep_j0
    simp
    by_cases h0 : r = 0
    · rw [ifB_pos (by simp; omega)]
      simp [h0]
    · rw [ifB_neg (by simp; omega)]
      simp [ht.at_, e1]
      rw [wrap_u32 _ (by omega) (by omega)]
      rw [show decide ((r : Int) - 1 = (t.done : Int)) = decide (r = t.done + 1) from by congr 1; apply propext; omega]
  rw [start]
  unfold dedup_Table_Keep_j2
  simp
  by_cases h1 : r = t.done + 1
  · rw [ifB_neg (by simp [h1])]
    simp [ht.at_, e1]
    by_cases h2 : 1073741824 ≤ t.done
    · rw [ifB_pos (by simp; omega)]
      exact bad 6 (by unfold Tb.keepE; rw [if_neg (by omega), if_pos h2]) (by decide)
    rw [ifB_neg (by simp; omega)]
    simp [ht.at_, e1]
    rw [len_map_uint32_api_Message ht0.map, length_ents]
    simp
    by_cases h3 : 16 ≤ t.msgs.length
    · rw [ifB_pos (by simp; omega)]
      exact bad 4 (by unfold Tb.keepE; rw [if_neg (by omega), if_neg h2, if_pos h3]) (by decide)
    rw [ifB_neg (by simp; omega)]
    have hk : t.keepE r = 0 := by unfold Tb.keepE; rw [if_neg (by omega), if_neg h2, if_neg h3]
    unfold dedup_Table_Keep_j1
    have e3 : t.map ≠ t.blk := fun e => ht.ne e.symm
    have hlt' : t.blk < w.heap.size + 1 := by omega
    simp [ht.at_, e1, Ne.symm e1, hlt', rowOf_whole _ _ _ _ hm.size]
    generalize hw1 : put (w.alloc (.cells m 37)) t.blk _ = w1
    have hmap1 : MapIs (fun n : Int => Value.int .u32 n) (hp w1 t.map) (entsFrom (t.acked + 1) t.msgs) := by
      rw [← hw1, hp_put, if_neg e3, hp_alloc, if_neg e2]; exact ht.map
    have hx1 : hp w1 t.blk = some (.cells #[.int .u32 (r : Nat), .int .u32 t.acked, .map (some t.map)] 128 (0, 0)) := by
      rw [← hw1]; simp [hlt']
    have hm1 : hp w1 w.heap.size = some (.cells m 37 (0, 0)) := by
      rw [← hw1]; simp [Ne.symm e1]
    have hs1 : w1.heap.size = w.heap.size + 1 := by rw [← hw1]; simp
    have hext1 : Ext [t.blk, t.map] w w1 := by rw [← hw1]; exact hext0.put (.inl (by simp))
    have hmap2 : MapIs (fun n : Int => Value.int .u32 n) (hp (drw w1) t.map) (entsFrom (t.acked + 1) t.msgs) := hmap1
    obtain ⟨o, ho, hmu⟩ := mu_map_uint32_api_Message hmap2 (r : Int) (.agg m)
    rw [hmu]
    have hs := setM_ents m t.msgs (t.acked + 1)
    have hre : t.acked + 1 + t.msgs.length = r := by unfold Tb.done at h1; omega
    rw [hre] at hs
    rw [hs] at ho
    have := h _ ((hext1.drw).put (b := t.map) (o := o) (.inl (by simp))) ⟨?_, ?_, ?_, ?_, ?_, ?_⟩
    · rw [hk] at this; simpa using this
    all_goals (unfold Tb.keep; rw [if_pos hk])
    · simp only [hp_put, if_neg ht.ne, hp_drw, hx1, Tb.done, List.length_append, List.length_singleton]
      rw [show t.acked + (t.msgs.length + 1) = r from by unfold Tb.done at h1; omega]
    · simp only [hp_put, if_true, size_drw, hs1]
      rw [if_pos (by omega)]
      exact ho
    · simp only [Tb.done, List.length_append, List.length_singleton]; unfold Tb.done at h2; omega
    · simp only [List.length_append, List.length_singleton]; omega
    · intro x hx
      simp at hx
      rcases hx with hx | rfl
      · exact ht.msgs x hx
      · exact hm
    · exact ht.ne
  · rw [ifB_pos (by simp [h1])]
    exact bad 1 (by unfold Tb.keepE; rw [if_pos h1]) (by decide)

/-- Acknowledging: the error's number; the table then. -/
def Tb.ackE (t : Tb) (n : Nat) : Nat := if t.done < n then 1 else 0
def Tb.ack (t : Tb) (n : Nat) : Tb := if t.ackE n = 0 then { t with acked := max t.acked n, msgs := t.msgs.drop (n - t.acked) } else t

theorem Tb.ack_done (t : Tb) (n : Nat) : (t.ack n).done = t.done := by
  unfold Tb.ack Tb.ackE
  by_cases h : t.done < n
  · rw [if_pos h, if_neg (by decide)]
  · rw [if_neg h, if_pos rfl]
    unfold Tb.done at *
    simp only [List.length_drop]
    omega

theorem dedup_Ack_spec {t : Tb} {n : Nat} {Q : Cont} {w : World} (ht : TbRep w t) (hn : n < 4294967296)
    (h : ∀ w', Ext [t.blk, t.map] w w' → w'.heap.size = w.heap.size → TbRep w' (t.ack n) → Q (I (t.ackE n)) w') : Ret pg n_dedup_Table_Ack #[pt t.blk 0, .int .u32 n] Q w := by
  apply dedup_Table_Ack_ok
  unfold dedup_Table_Ack dedup_Table_Ack_j0
  simp [ht.at_]
  by_cases h1 : t.done < n
  · rw [ifB_pos (by simp; omega)]
    have he : t.ackE n = 1 := by unfold Tb.ackE; rw [if_pos h1]
    have := h w (Ext.refl _ _) rfl (by unfold Tb.ack; rw [he, if_neg (by decide)]; exact ht)
    rwa [he] at this
  rw [ifB_neg (by simp; omega)]
  have he : t.ackE n = 0 := by unfold Tb.ackE; rw [if_neg h1]
  unfold dedup_Table_Ack_j1 dedup_Table_Ack_l0
  refine loopW_intro (fun s w' => ∃ k, t.acked + k ≤ max t.acked n ∧ s = (pt t.blk 0, .int .u32 (n : Int)) ∧ Ext [t.blk, t.map] w w' ∧ w'.heap.size = w.heap.size ∧ TbRep w' { t with acked := t.acked + k, msgs := t.msgs.drop k })
    (fun _ w' => match cellOf (hp w' t.blk) 1 with | some (.int _ a) => n - a.toNat | _ => 0) ⟨0, by omega, rfl, Ext.refl _ _, rfl, by simpa using ht⟩ ?_
  rintro s w1 ⟨k, hk, rfl, hx, hs, h2⟩ next hnext
  unfold dedup_Table_Ack_l0b
  have hat := h2.at_
  have hdone : t.acked ≤ n → n - t.acked ≤ t.msgs.length := by unfold Tb.done at h1; omega
  simp only at hat
  simp [hat]
  by_cases h3 : t.acked + k < n
  · rw [ifB_pos (by simp; omega)]
    have hlen : k < t.msgs.length := by have := hdone (by omega); omega
    have hlt := lt_of_hp h2.at_
    have hml := h2.mapLt
    have hd := h2.le
    simp only [Tb.done] at hd
    simp only at hlt hml
    have hl := ht.le
    simp only [Tb.done] at hl
    simp [hat]
    rw [wrap_u32 _ (by omega) (by omega)]
    have hmap : MapIs (fun n : Int => Value.int .u32 n) (hp (drw w1) t.map) (entsFrom (t.acked + k + 1) (t.msgs.drop k)) := h2.map
    obtain ⟨o, ho, hdel⟩ := del_map_uint32_api_Message hmap (((t.acked + k : Nat) : Int) + 1)
    simp only [Int.natCast_add] at hdel ho
    rw [hdel]
    have ho' : MapIs (fun n : Int => Value.int .u32 n) (some o) (entsFrom (t.acked + (k + 1) + 1) (t.msgs.drop (k + 1))) := by
      have e := delM_ents (t.acked + k + 1) (t.msgs.drop k)
      rw [List.drop_drop] at e
      rw [show ((t.acked : Int) + (k : Int) + 1) = ((t.acked + k + 1 : Nat) : Int) from by omega, e] at ho
      exact ho
    have e3 : t.blk ≠ t.map := ht.ne
    simp [hat, e3]
    rw [wrap_u32 _ (by omega) (by omega)]
    refine hnext _ _ ⟨k + 1, by omega, rfl, (hx.drw.put (.inl (by simp))).put (.inl (by simp)), by simp [hs], ⟨?_, ?_, ?_, ?_, ?_, ?_⟩⟩ ?_
    · simp [hlt, Tb.done]
      omega
    · simp [Ne.symm e3, hml]
      exact ho'
    · simp only [Tb.done, List.length_drop]; omega
    · simp only [List.length_drop]; have := ht.room; omega
    · exact fun m hm => ht.msgs m (List.mem_of_mem_drop hm)
    · exact ht.ne
    · simp [hlt, hat]
      omega
  · rw [ifB_neg (by simp; omega)]
    unfold dedup_Table_Ack_j2
    have hk' : k = n - t.acked := by omega
    have e : t.ack n = { t with acked := t.acked + k, msgs := t.msgs.drop k } := by
      unfold Tb.ack
      rw [he, if_pos rfl, hk', show max t.acked n = t.acked + (n - t.acked) from by omega]
    have := h w1 hx hs (by rw [e]; exact h2)
    rwa [he] at this
end Go.Proofs.Ytpdcllhmbjnooaa
