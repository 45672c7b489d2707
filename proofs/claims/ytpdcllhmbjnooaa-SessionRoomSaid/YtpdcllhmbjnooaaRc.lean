/- The reference's hub: opening, closing, what is told. -/
import Derived.Test.YtpdcllhmbjnooaaRb
namespace Go.Proofs.Ytpdcllhmbjnooaa
open Go.Dc
set_option maxRecDepth 10000

/-- The hub's own cells are others. -/
theorem RRep.hub {w : World} {g g' : Rh} (hr : RRep w g) (hb : g'.blk = g.blk) (ho : ∀ b, g.own b ≠ .none → g'.own b = g.own b) (hlt : ∀ b, g'.own b ≠ .none → b < w.heap.size)
    (vc : Vec w 0 3 1 g'.vc g'.conns.length (g'.conns.map I)) (vl : Vec w 0 116 10 g'.vl g'.sess.length (flatL Rs.cells g'.sess)) (sess : ∀ s ∈ g'.sess, RsRep w g'.own s)
    (o1 : ∀ b ∈ ob g'.vc, g'.own b = .hub 1) (o2 : ∀ b ∈ ob g'.vl, g'.own b = .hub 2) (caps : g'.caps < 4294967296) (away : g'.away < 4294967296) (last : g'.last < 18446744073709551616) (ndS : (g'.sess.map (·.tok)).Nodup) :
    RRep (put w g.blk (.cells g'.cells 75 (0, 0))) g' := by
  have x : Ext [g.blk] w (put w g.blk (.cells g'.cells 75 (0, 0))) := Ext.put (Ext.refl _ _) (.inl (by simp))
  have hob : g'.own g.blk = .hub 0 := (ho _ (by rw [hr.o0]; simp)).trans hr.o0
  have nS : ∀ b, g'.own b ≠ .hub 0 → b ∉ [g.blk] := fun b hb hs => by simp at hs; rw [hs] at hb; exact hb hob
  refine ⟨?_, vc.ext x fun b hb => nS b (by rw [o1 b hb]; simp), vl.ext x fun b hb => nS b (by rw [o2 b hb]; simp), fun s hs => (sess s hs).ext x fun b hb e => ?_, by rw [hb]; exact hob, o1, o2, fun b hb => by rw [size_put]; exact hlt b hb, caps, away, last, ndS⟩
  · rw [hb, hp_put, if_pos rfl, if_pos (lt_of_hp hr.at_)]
  · simp at hb
    rw [hb, hob] at e
    cases e

/-- The list of connections grew where it is, or was copied; what it was is still there. -/
theorem RRep.extC {w w' : World} {g : Rh} (h : RRep w g) (x : Ext (ob g.vc) w w') (hv : Vec w' 0 3 1 g.vc g.conns.length (g.conns.map I)) : RRep w' g := by
  have nS : ∀ b, g.own b ≠ .hub 1 → b ∉ ob g.vc := fun b hb hs => hb (h.o1 b hs)
  refine { h with at_ := ?_, vc := hv, vl := ?_, sess := ?_, lt := ?_ }
  · exact x.at h.at_ (nS _ (by rw [h.o0]; simp))
  · exact h.vl.ext x fun b hb => nS b (by rw [h.o2 b hb]; simp)
  · exact fun s hs => (h.sess s hs).ext x fun b hb e => by rw [h.o1 b hb] at e; cases e
  · exact fun b hb => Nat.lt_of_lt_of_le (h.lt b hb) x.size
theorem RRep.extL {w w' : World} {g : Rh} (h : RRep w g) (x : Ext (ob g.vl) w w') (hv : Vec w' 0 116 10 g.vl g.sess.length (flatL Rs.cells g.sess)) : RRep w' g := by
  have nS : ∀ b, g.own b ≠ .hub 2 → b ∉ ob g.vl := fun b hb hs => hb (h.o2 b hs)
  refine { h with at_ := ?_, vc := ?_, vl := hv, sess := ?_, lt := ?_ }
  · exact x.at h.at_ (nS _ (by rw [h.o0]; simp))
  · exact h.vc.ext x fun b hb => nS b (by rw [h.o1 b hb]; simp)
  · exact fun s hs => (h.sess s hs).ext x fun b hb e => by rw [h.o2 b hb] at e; cases e
  · exact fun b hb => Nat.lt_of_lt_of_le (h.lt b hb) x.size

/-- An owner for the blocks of a list. -/
def ownV (own : Nat → Tag) (v : Value) (t : Tag) : Nat → Tag := fun b => if b ∈ ob v then t else own b
theorem ownV_in {own : Nat → Tag} {v : Value} {t : Tag} {b : Nat} (h : b ∈ ob v) : ownV own v t b = t := if_pos h
theorem ownV_old {own : Nat → Tag} {v : Value} {t : Tag} (h : ∀ b ∈ ob v, own b = .none ∨ own b = t) {b : Nat} (hb : own b ≠ .none) : ownV own v t b = own b := by
  unfold ownV
  split
  · rename_i hv
    rcases h b hv with e | e
    · exact absurd e hb
    · exact e.symm
  · rfl
theorem ownV_lt {own : Nat → Tag} {v : Value} {t : Tag} {n : Nat} (h : ∀ b ∈ ob v, b < n) (ho : ∀ b, own b ≠ .none → b < n) {b : Nat} (hb : ownV own v t b ≠ .none) : b < n := by
  unfold ownV at hb
  split at hb
  · rename_i hv; exact h b hv
  · exact ho b hb

/-- The connections are others, in a list of their own. -/
def Rh.withC (g : Rh) (v : Value) (l : List Int) : Rh := { g with vc := v, conns := l, own := ownV g.own v (.hub 1) }
theorem RRep.withC {w : World} {g : Rh} (h : RRep w g) {v : Value} {l : List Int} (hv : Vec w 0 3 1 v l.length (l.map I)) (ho : ∀ b ∈ ob v, g.own b = .none ∨ g.own b = .hub 1) : RRep (put w g.blk (.cells (g.withC v l).cells 75 (0, 0))) (g.withC v l) := by
  have e1 : ∀ b, g.own b ≠ .none → ownV g.own v (.hub 1) b = g.own b := fun b hb => ownV_old ho hb
  refine h.hub (g' := g.withC v l) rfl e1 (fun b hb => ownV_lt (fun b hb => (hv.ob_ge b hb).2) h.lt hb) hv h.vl ?_ (fun b hb => ownV_in hb) ?_ h.caps h.away h.last h.ndS
  · intro s hs
    refine { h.sess s hs with own := fun b hb => ?_ }
    have := (h.sess s hs).own b hb
    show ownV g.own v (.hub 1) b = _
    rw [e1 b (by rw [this]; simp)]
    exact this
  · intro b hb
    have := h.o2 b hb
    show ownV g.own v (.hub 1) b = _
    rw [e1 b (by rw [this]; simp)]
    exact this

theorem absC (g : Rh) : g.abs.conns = g.conns := rfl
theorem ROpen_spec {w : World} {g : Rh} {n : Int} {Q : Cont} (hr : RRep w g) (hl : g.conns.length ≤ 8)
    (h : ∀ w' g', RStep w g w' g' → g'.abs = g.abs.open_ n → Q (I (g.abs.openE n)) w') : Ret pg n_lodestarref18_Hub_Open #[pt g.blk 0, I n] Q w := by
  apply lodestarref18_Hub_Open_ok
  unfold lodestarref18_Hub_Open
  have hat := hr.at_
  unfold Rh.cells at hat
  simp [hat]
  refine Has_spec hr.vc (by omega) ?_
  simp
  by_cases h1 : n ∈ g.conns
  · rw [ifB_pos (by simpa using h1)]
    have he : g.abs.openE n = 3 := by unfold MH.openE; rw [absC, if_pos h1]
    have := h w g (RStep.refl hr) (by unfold MH.open_; rw [he, if_neg (by decide)])
    rwa [he] at this
  rw [ifB_neg (by simpa using h1)]
  simp [hat]
  rw [Vec.len43 hr.vc]
  simp
  by_cases h2 : 8 ≤ g.conns.length
  · rw [ifB_pos (by simp; omega)]
    have he : g.abs.openE n = 4 := by unfold MH.openE; rw [absC, if_neg h1, if_pos h2]
    have := h w g (RStep.refl hr) (by unfold MH.open_; rw [he, if_neg (by decide)])
    rwa [he] at this
  rw [ifB_neg (by simp; omega)]
  have he : g.abs.openE n = 0 := by unfold MH.openE; rw [absC, if_neg h1, if_neg h2]
  simp [hat]
  have hr1 := hr.alloc (.cells #[I n] 3)
  refine append_spec (base := 0) (t := 43) (e := 3) (z := .int .i64 0) (sz := 1) (bytes := 8) (by kernel_rfl) (by kernel_rfl) rfl (by decide) hr1.vc (g := w.heap.size) (m := 1) (cs := #[I n]) (T := 3) (fr := (0, 0)) (by simp) (by simp) (by simp)
    (by unfold maxLen; omega) (by omega) (Nat.zero_le _) fun v' w2 x2 hv2 hv3 hob => ?_
  have hr2 := hr1.extC x2 hv3
  have hat2 := hr2.at_
  unfold Rh.cells at hat2
  have hv2' : Vec w2 0 3 1 v' (g.conns ++ [n]).length ((g.conns ++ [n]).map I) := by simpa using hv2
  have hone : v'.oneCell' = true := by obtain ⟨a, c, rfl⟩ := hv2.len; rfl
  have hob' : ∀ b ∈ ob v', g.own b = .none ∨ g.own b = .hub 1 := by
    intro b hb
    rcases hob with e | e
    · rw [e] at hb; exact .inr (hr.o1 b hb)
    · rw [e] at hb; simp at hb; rw [hb]; exact .inl (hr1.fresh (by simp))
  have hr3 := hr2.withC hv2' hob'
  simp [hat2, hone]
  have x1 : Ext [] w (w.alloc (.cells #[I n] 3)) := (Ext.refl _ _).alloc
  have x3 : Ext [g.blk] w2 (put w2 g.blk (.cells (g.withC v' (g.conns ++ [n])).cells 75 (0, 0))) := Ext.put (Ext.refl _ _) (.inl (by simp))
  have st : RStep w g _ (g.withC v' (g.conns ++ [n])) := RStep.of (((x1.mono (T := ob g.vc ++ [g.blk]) (by simp)).trans (x2.mono (T := ob g.vc ++ [g.blk]) (fun b hb => List.mem_append_left _ hb)) (fun b hb => .inl hb)).trans x3 (fun b hb => .inl (List.mem_append_right _ hb)))
    (fun b hb _ => by
      rcases List.mem_append.1 hb with hb | hb
      · rw [hr.o1 b hb]; simp
      · simp at hb; rw [hb, hr.o0]; simp)
    (fun b hb hn => by
      show ownV g.own v' (.hub 1) b = _
      unfold ownV
      rw [if_neg]
      · exact hn
      · intro hbv
        rcases hob with e | e
        · rw [e] at hbv; rw [hr.o1 b hbv] at hn; cases hn
        · rw [e] at hbv; simp at hbv; omega) rfl hr3 id
  have := h _ _ st (by unfold MH.open_; rw [he, if_pos rfl]; rfl)
  rw [he] at this
  exact this

/-! ### Close -/

structure MH.Ok (m : MH) : Prop where
  sc : ∀ s ∈ m.sess, ∀ n, s.conn = some n → n ∈ m.conns
  u : ∀ s ∈ m.sess, ∀ t ∈ m.sess, ∀ n, s.conn = some n → t.conn = some n → s.tok = t.tok
  ndC : m.conns.Nodup
  ndS : (m.sess.map (·.tok)).Nodup
  lc : m.conns.length ≤ 8
  ls : m.sess.length ≤ 8

theorem filter_len {l : List Int} {n : Int} : (l.filter (· != n)).length < l.length ↔ n ∈ l := by
  constructor
  · intro h
    cases Classical.em (n ∈ l) with
    | inl h1 => exact h1
    | inr h1 =>
      rw [List.filter_eq_self.2 (fun x hx => by simp; exact fun e => h1 (e ▸ hx))] at h
      omega
  · intro h
    rcases Nat.lt_or_eq_of_le (List.length_filter_le (· != n) l) with h1 | h1
    · exact h1
    · have := List.length_filter_eq_length_iff.1 h1 n h
      simp at this

theorem idx_cases (p : Rs → Bool) (l : List Rs) : (∃ (k : Nat) (s : Rs), l[k]? = some s ∧ p s = true ∧ idx p l = (k : Int) ∧ k < l.length) ∨ (idx p l = -1 ∧ ∀ s ∈ l, p s = false) := by
  unfold idx
  cases h : l.findIdx? p with
  | some k =>
    rw [List.findIdx?_eq_some_iff_getElem] at h
    obtain ⟨h1, h2, _⟩ := h
    exact .inl ⟨k, l[k], List.getElem?_eq_getElem h1, h2, rfl, h1⟩
  | none =>
    rw [List.findIdx?_eq_none_iff] at h
    exact .inr ⟨rfl, h⟩

theorem abs_conn (s : Rs) (n : Int) : s.abs.conn = some n ↔ (s.has && decide (s.conn = n)) = true := by
  show (if s.has then some s.conn else none) = some n ↔ _
  cases s.has <;> simp

def Rs.shut (s : Rs) (now : Nat) : Rs := { s with has := false, conn := 0, since := now }

theorem rclose_some {g : Rh} {k : Nat} {s : Rs} {n : Int} {now : Nat} (ok : g.abs.Ok) (hk : g.sess[k]? = some s) (hs : s.abs.conn = some n) : (g.abs.sess.map fun x => if x.conn = some n then { x with conn := none, since := now } else x) = (g.sess.set k (s.shut now)).map Rs.abs := by
  obtain ⟨hkl, hks⟩ := List.getElem?_eq_some_iff.1 hk
  apply List.ext_getElem?
  intro i
  unfold Rh.abs
  simp only [List.getElem?_map, List.getElem?_set]
  by_cases hi : k = i
  · subst hi
    simp only [hk, Option.map_some, hkl, if_true]
    rw [if_pos hs]
    rfl
  · rw [if_neg hi]
    cases hx : g.sess[i]? with
    | none => rfl
    | some x =>
      simp only [Option.map_some]
      rw [if_neg]
      intro e
      have hxm := List.mem_of_getElem? hx
      have hsm := List.mem_of_getElem? hk
      have := ok.u s.abs (List.mem_map.2 ⟨s, hsm, rfl⟩) x.abs (List.mem_map.2 ⟨x, hxm, rfl⟩) n hs e
      have this' : s.tok = x.tok := this
      obtain ⟨hil, hix⟩ := List.getElem?_eq_some_iff.1 hx
      have nd : (g.sess.map (·.tok)).Nodup := by
        have := ok.ndS
        unfold Rh.abs at this
        rw [List.map_map] at this
        exact this
      have := (List.getElem_inj (h₀ := by simpa using hkl) (h₁ := by simpa using hil) nd).1 (by simp [hks, hix, this'])
      exact hi this

theorem rclose_none {g : Rh} {n : Int} {now : Nat} (h : ∀ s ∈ g.sess, (s.has && decide (s.conn = n)) = false) : (g.abs.sess.map fun x => if x.conn = some n then { x with conn := none, since := now } else x) = g.abs.sess := by
  unfold Rh.abs
  rw [List.map_map]
  apply List.map_congr_left
  intro s hs
  simp only [Function.comp_apply]
  rw [if_neg]
  intro e
  have := (abs_conn s n).1 e
  rw [h s hs] at this
  cases this

theorem rclose_abs {g : Rh} {n : Int} {now : Nat} (ok : g.abs.Ok) {sess : List Rs} (h : (g.abs.sess.map fun x => if x.conn = some n then { x with conn := none, since := now } else x) = sess.map Rs.abs) :
    (⟨g.abs.caps, g.abs.size, g.abs.away, g.abs.last, g.conns.filter (· != n), sess.map Rs.abs⟩ : MH) = g.abs.close n now := by
  unfold MH.close
  by_cases hn : n ∈ g.abs.conns
  · rw [if_pos hn, ← h]
    rfl
  · rw [if_neg hn]
    have h1 : g.conns.filter (· != n) = g.conns := List.filter_eq_self.2 fun x hx => by
      simp only [bne_iff_ne, ne_eq]
      exact fun e => hn (e ▸ hx)
    have h2 : g.abs.sess = sess.map Rs.abs := by
      rw [← h]
      conv => lhs; rw [← List.map_id g.abs.sess]
      apply List.map_congr_left
      intro s hs
      show s = _
      rw [if_neg]
      exact fun e => hn (ok.sc s hs n e)
    rw [h1, ← h2]
    rfl

theorem RClose_rest {w w2 : World} {g g1 : Rh} {n : Int} {now : Nat} {Q : Cont} (hr2 : RRep w2 g1) (st2 : RStep w g w2 g1) (ok : g.abs.Ok) (e1 : g1.blk = g.blk) (e2 : g1.sess = g.sess)
    (e3 : g1.abs = ⟨g.abs.caps, g.abs.size, g.abs.away, g.abs.last, g.conns.filter (· != n), g.sess.map Rs.abs⟩) (hnow : now < 4294967296)
    (h : ∀ w' g', RStep w g w' g' → g'.abs = g.abs.close n now → (∀ (k : Nat) (s : Rs), g.sess[k]? = some s → g'.sess[k]? = some (if s.has && decide (s.conn = n) then s.shut now else s)) → Q (.bool (decide (n ∈ g.abs.conns))) w') :
    lodestarref18_Hub_Close_j4 Q (pt g.blk 0) (I n) (.int .u32 now) (.bool (decide (n ∈ g.abs.conns))) w2 := by
  have hs8 : g1.sess.length ≤ 8 := by have := ok.ls; unfold Rh.abs at this; rw [e2]; simpa using this
  unfold lodestarref18_Hub_Close_j4
  rw [← e1]
  refine Of_spec hr2 hs8 ?_
  unfold lodestarref18_Hub_Close_j5
  rcases idx_cases (fun s => s.has && decide (s.conn = n)) g1.sess with ⟨k, s, hk, hpp, hidx, hkl⟩ | ⟨hidx, hnone⟩
  · rw [hidx]
    have hsc := (abs_conn s n).2 hpp
    rw [bo_geq, iteW_bool, ifB_pos (by simp)]
    have hat2 := hr2.at_
    unfold Rh.cells at hat2
    obtain ⟨L, cap, hL⟩ := hr2.lat (by intro e; rw [e] at hk; simp at hk)
    have hvl := hL.vl
    have hs2 := hr2.sess s (List.mem_of_getElem? hk)
    have same : ∀ (t : Rs) w' , Ext [L] w2 w' → t.tok = s.tok → t.va = s.va → t.ans = s.ans → t.acked = s.acked → t.size = s.size → t.had = s.had → t.caps = s.caps → t.since < 4294967296 → RsRep w' g1.own t := by
      intro t w' x q1 q2 q3 q4 q5 q6 q7 q8
      have := hs2.ext x fun b hb e => by simp at hb; rw [hb, hL.own] at e; cases e
      exact ⟨by rw [q2, q3]; exact this.va, by rw [q2, q1]; exact this.own, by rw [q3]; exact this.msgs, by rw [q3, q4]; exact this.ack, by rw [q3]; exact this.len, by rw [q6]; exact this.hadB, by rw [q5]; exact this.s1, by rw [q5]; exact this.s8, by rw [q7]; exact this.caps, q8⟩
    obtain ⟨cur, q1, q2, q3, q4⟩ := hr2.write (k := k) (j := 7) (s' := { s with has := false }) (v := .bool false) hL hk (by decide) rfl rfl (fun w' x => same _ w' x rfl rfl rfl rfl rfl rfl rfl hs2.since)
    simp [hat2, hvl]
    rw [ifK_pos (by simp; omega)]
    simp
    rw [q1, objK_some (by omega)]
    simp only [arrK_eq]
    obtain ⟨w3, hw3⟩ : ∃ w3, w3 = put w2 L (.cells (cur.setIfInBounds (k * 10 + 7) (.bool false)) 116 (0, 0)) := ⟨_, rfl⟩
    rw [← hw3] at q3 q4 ⊢
    have x3 : Ext [L] w2 w3 := by rw [hw3]; exact Ext.put (Ext.refl _ _) (.inl (by simp))
    clear hw3
    have hat3 := q3.at_
    unfold Rh.cells at hat3
    have hvl3 := q4.vl
    have hlen3 : (g1.setR k { s with has := false }).sess.length = g1.sess.length := by simp [Rh.setR]
    rw [hlen3] at hvl3
    obtain ⟨cur3, r1, r2, r3, r4⟩ := q3.write (k := k) (j := 8) (s' := { s with has := false, conn := 0 }) (v := I 0) q4 (set_get hk) (by decide) rfl rfl (fun w' x => same _ w' (x3.trans x (by simp)) rfl rfl rfl rfl rfl rfl rfl hs2.since)
    have hat3' : hp w3 g1.blk = _ := hat3
    rw [hvl3] at hat3'
    simp [hat3']
    rw [ifK_pos (by simp; omega)]
    simp
    rw [r1, objK_some (by omega)]
    simp only [arrK_eq]
    obtain ⟨w4, hw4⟩ : ∃ w4, w4 = put w3 L (.cells (cur3.setIfInBounds (k * 10 + 8) (I 0)) 116 (0, 0)) := ⟨_, rfl⟩
    rw [← hw4] at r3 r4 ⊢
    have x4 : Ext [L] w2 w4 := by rw [hw4]; exact x3.put (.inl (by simp))
    clear hw4
    have hat4 := r3.at_
    unfold Rh.cells at hat4
    have hvl4 := r4.vl
    have hlen4 : ((g1.setR k { s with has := false }).setR k { s with has := false, conn := 0 }).sess.length = g1.sess.length := by simp [Rh.setR]
    rw [hlen4] at hvl4
    obtain ⟨cur4, t1, t2, t3, t4⟩ := r3.write (k := k) (j := 9) (s' := s.shut now) (v := .int .u32 now) r4 (set_get (set_get hk)) (by decide) rfl rfl (fun w' x => same _ w' (x4.trans x (by simp)) rfl rfl rfl rfl rfl rfl rfl hnow)
    have hat4' : hp w4 g1.blk = _ := hat4
    rw [hvl4] at hat4'
    simp [hat4']
    rw [ifK_pos (by simp; omega)]
    simp
    rw [t1, objK_some (by omega)]
    simp
    have hg5 : ((g1.setR k { s with has := false }).setR k { s with has := false, conn := 0 }).setR k (s.shut now) = g1.setR k (s.shut now) := by simp [Rh.setR]
    rw [hg5] at t3
    unfold lodestarref18_Hub_Close_j6
    have x5 : Ext [L] w2 (put w4 L (.cells (cur4.setIfInBounds (k * 10 + 9) (.int .u32 now)) 116 (0, 0))) := x4.put (.inl (by simp))
    have st5 : RStep w2 g1 _ (g1.setR k (s.shut now)) := RStep.of x5 (by intro b hb _; simp at hb; rw [hb, hL.own]; simp) (fun _ _ h => h) rfl t3 (fun hz x hx hh => by
      rcases List.mem_or_eq_of_mem_set hx with hx | rfl
      · exact hz x hx hh
      · rfl)
    refine h _ _ (st2.trans st5) ?_ ?_
    · rw [← rclose_abs (now := now) (sess := g.sess.set k (s.shut now)) ok (rclose_some ok (by rw [← e2]; exact hk) hsc)]
      show (⟨g1.abs.caps, g1.abs.size, g1.abs.away, g1.abs.last, g1.abs.conns, (g1.sess.set k (s.shut now)).map Rs.abs⟩ : MH) = _
      rw [e3, e2]
    · intro i t hi
      show (g1.sess.set k (s.shut now))[i]? = _
      rw [List.getElem?_set, e2]
      rw [e2] at hk hkl
      by_cases hik : k = i
      · subst hik
        rw [hk] at hi
        injection hi with hi
        subst hi
        rw [if_pos rfl, if_pos hkl, if_pos hpp]
      · rw [if_neg hik, hi, if_neg]
        intro hpt
        have h1 := ok.u s.abs (List.mem_map.2 ⟨s, List.mem_of_getElem? hk, rfl⟩) t.abs (List.mem_map.2 ⟨t, List.mem_of_getElem? hi, rfl⟩) n hsc ((abs_conn t n).2 hpt)
        have h2 : s.tok = t.tok := h1
        obtain ⟨hil, hix⟩ := List.getElem?_eq_some_iff.1 hi
        obtain ⟨hkl2, hks⟩ := List.getElem?_eq_some_iff.1 hk
        have nd : (g.sess.map (·.tok)).Nodup := by
          have := ok.ndS
          unfold Rh.abs at this
          rw [List.map_map] at this
          exact this
        exact hik ((List.getElem_inj (h₀ := by simpa using hkl2) (h₁ := by simpa using hil) nd).1 (by simp [hks, hix, h2]))
  · rw [hidx]
    simp
    unfold lodestarref18_Hub_Close_j6
    refine h w2 g1 st2 ?_ (fun k s hk => by rw [e2, hk, if_neg (by rw [hnone s (by rw [e2]; exact List.mem_of_getElem? hk)]; simp)])
    rw [e3]
    exact rclose_abs ok (rclose_none (by rw [← e2]; exact hnone))

theorem RClose_spec {w : World} {g : Rh} {n : Int} {now : Nat} {Q : Cont} (hr : RRep w g) (ok : g.abs.Ok) (hnow : now < 4294967296)
    (h : ∀ w' g', RStep w g w' g' → g'.abs = g.abs.close n now → (∀ (k : Nat) (s : Rs), g.sess[k]? = some s → g'.sess[k]? = some (if s.has && decide (s.conn = n) then s.shut now else s)) → Q (.bool (decide (n ∈ g.abs.conns))) w') : Ret pg n_lodestarref18_Hub_Close #[pt g.blk 0, I n, .int .u32 now] Q w := by
  apply lodestarref18_Hub_Close_ok
  unfold lodestarref18_Hub_Close lodestarref18_Hub_Close_j0 lodestarref18_Hub_Close_j1 lodestarref18_Hub_Close_j7 lodestarref18_Hub_Close_l0
  have hc8 : g.conns.length ≤ 8 := ok.lc
  have hs8 : g.sess.length ≤ 8 := by have := ok.ls; unfold Rh.abs at this; simpa using this
  /- behind the loop -/
  have rest : ∀ w1 v, RStep w g w1 g → Vec w1 w.heap.size 3 1 v (g.conns.filter (· != n)).length ((g.conns.filter (· != n)).map I) → (∀ b ∈ ob v, g.own b = .none) → lodestarref18_Hub_Close_j2 Q (pt g.blk 0) (I n) (.int .u32 now) v w1 := by
    intro w1 v st1 hv hvo
    unfold lodestarref18_Hub_Close_j2
    have hr1 := st1.rep
    have hat := hr1.at_
    unfold Rh.cells at hat
    rw [Vec.len43 hv]
    simp [hat]
    rw [Vec.len43 hr1.vc]
    simp
    show lodestarref18_Hub_Close_j3 Q (pt g.blk 0) (I n) (.int .u32 now) v (.bool (decide (n ∈ g.abs.conns))) w1
    unfold lodestarref18_Hub_Close_j3
    have hone : v.oneCell' = true := by obtain ⟨a, c, rfl⟩ := hv.len; rfl
    simp [hat, hone]
    have hr2 := hr1.withC (hv.base (Nat.zero_le _)) (fun b hb => .inl (hvo b hb))
    obtain ⟨w2, hw2⟩ : ∃ w2, w2 = put w1 g.blk (.cells (g.withC v (g.conns.filter (· != n))).cells 75 (0, 0)) := ⟨_, rfl⟩
    have hw2' := hw2
    unfold Rh.cells Rh.withC at hw2'
    simp only at hw2'
    rw [← hw2']
    rw [← hw2] at hr2
    have x2 : Ext [g.blk] w1 w2 := by rw [hw2]; exact Ext.put (Ext.refl _ _) (.inl (by simp))
    have st2 : RStep w g w2 (g.withC v (g.conns.filter (· != n))) := by
      have s1 : RStep w g w2 (g.withC v (g.conns.filter (· != n))) := ⟨x2.os.trans st1.os, x2.tape.trans st1.tape, x2.output.trans st1.output, Nat.le_trans st1.size x2.size,
        fun b hb hn => (x2.same b (Nat.lt_of_lt_of_le hb st1.size) (fun hs => by simp at hs; rw [hs, hr.o0] at hn; cases hn)).trans (st1.same b hb hn),
        fun b hb hn => by
          show ownV g.own v (.hub 1) b = _
          unfold ownV
          rw [if_neg (fun hbv => by have := (hv.ob_ge b hbv).1; omega)]
          exact hn, hr2, rfl, id⟩
      exact s1
    clear hw2 hw2'
    obtain ⟨g1, hg1⟩ : ∃ g1, g1 = g.withC v (g.conns.filter (· != n)) := ⟨_, rfl⟩
    have e1 : g1.blk = g.blk := by rw [hg1]; rfl
    have e2 : g1.sess = g.sess := by rw [hg1]; rfl
    have e3 : g1.abs = ⟨g.abs.caps, g.abs.size, g.abs.away, g.abs.last, g.conns.filter (· != n), g.sess.map Rs.abs⟩ := by rw [hg1]; rfl
    rw [← hg1] at hr2 st2
    clear hg1
    exact RClose_rest hr2 st2 ok e1 e2 e3 hnow h
  refine loopW_intro (fun s w' => ∃ (i : Nat) (v : Value), s = (pt g.blk 0, I n, .int .u32 now, v, I i) ∧ i ≤ g.conns.length ∧ RStep w g w' g ∧ Vec w' w.heap.size 3 1 v ((g.conns.take i).filter (· != n)).length (((g.conns.take i).filter (· != n)).map I) ∧ (∀ b ∈ ob v, g.own b = .none))
    (fun s _ => match s.2.2.2.2 with | .int _ i => g.conns.length - i.toNat | _ => 0) ⟨0, _, rfl, Nat.zero_le _, RStep.refl hr, by simpa using Vec.nil w w.heap.size 3 1, by simp [ob]⟩ ?_
  rintro s w1 ⟨i, v, rfl, hi, st1, hv, hvo⟩ next hnext
  unfold lodestarref18_Hub_Close_l0b
  have hr1 := st1.rep
  have hat := hr1.at_
  unfold Rh.cells at hat
  simp [hat]
  rw [Vec.len43 hr1.vc]
  simp
  by_cases hlt : i < g.conns.length
  · rw [ifB_pos (by simpa using hlt)]
    unfold lodestarref18_Hub_Close_j8
    obtain ⟨C, cap, cur, hvc, hC, hc⟩ := hr1.vc.get (i := i) (u := I g.conns[i]) (by simp [hlt])
    have hCo : g.own C = .hub 1 := hr.o1 C (by rw [hvc]; simp [ob])
    simp [hat, hvc]
    rw [ifK_pos (by simp; omega)]
    simp [hC, hc]
    have nx : ∀ w2 v2, RStep w g w2 g → Vec w2 w.heap.size 3 1 v2 ((g.conns.take (i + 1)).filter (· != n)).length (((g.conns.take (i + 1)).filter (· != n)).map I) → (∀ b ∈ ob v2, g.own b = .none) → lodestarref18_Hub_Close_j9 Q (fun x0 x1 x2 x3 x4 => next (x0, x1, x2, x3, x4)) (pt g.blk 0) (I n) (.int .u32 now) v2 (I i) w2 := by
      intro w2 v2 st2 hv2 hvo2
      unfold lodestarref18_Hub_Close_j9
      simp
      rw [wr_i64 _ (by omega) (by omega)]
      exact hnext _ _ ⟨i + 1, v2, rfl, by omega, st2, hv2, hvo2⟩ (by simp; omega)
    have htk : g.conns.take (i + 1) = g.conns.take i ++ [g.conns[i]] := by rw [List.take_add_one, List.getElem?_eq_getElem hlt]; rfl
    rw [htk, List.filter_append] at nx
    by_cases he : g.conns[i] = n
    · rw [ifB_neg (by simpa using he)]
      have e1 : [g.conns[i]].filter (· != n) = [] := by simp [he]
      rw [e1, List.append_nil] at nx
      exact nx w1 v st1 hv hvo
    · rw [ifB_pos (by simpa using he)]
      have e1 : [g.conns[i]].filter (· != n) = [g.conns[i]] := by simp [he]
      rw [e1] at nx
      simp [hat, hvc]
      rw [ifK_pos (by simp; omega)]
      simp [hC, hc]
      have hlen : ((g.conns.take i).filter (· != n)).length ≤ 8 := by
        have h1 := List.length_filter_le (· != n) (g.conns.take i)
        rw [List.length_take] at h1
        omega
      have x1 : Ext [] w1 (w1.alloc (.cells #[I g.conns[i]] 3)) := (Ext.refl _ _).alloc
      refine append_spec (base := w.heap.size) (t := 43) (e := 3) (z := .int .i64 0) (sz := 1) (bytes := 8) (by kernel_rfl) (by kernel_rfl) rfl (by decide) (hv.ext x1 (by simp)) (g := w1.heap.size) (m := 1) (cs := #[I g.conns[i]]) (T := 3) (fr := (0, 0)) (by simp) (by simp) (by simp)
        (by unfold maxLen; omega) (by omega) (Nat.le_trans st1.size x1.size) fun v' w2 x2 hv2 hv3 hob => ?_
      have st2 : RStep w g (w1.alloc (.cells #[I g.conns[i]] 3)) g := st1.trans (RStep.idle hr1 x1)
      have hvo2 : ∀ b ∈ ob v', g.own b = .none := by
        intro b hb
        rcases hob with e | e
        · rw [e] at hb; exact hvo b hb
        · rw [e] at hb; simp at hb; rw [hb]; exact st2.rep.fresh (by simp)
      refine nx w2 v' (st2.fresh x2 fun b hb => ⟨(hv.ob_ge b hb).1, hvo b hb⟩) ?_ hvo2
      simpa using hv2
  · rw [ifB_neg (by simpa using hlt)]
    rw [List.take_of_length_le (by omega)] at hv
    exact rest w1 v st1 hv hvo
end Go.Proofs.Ytpdcllhmbjnooaa
