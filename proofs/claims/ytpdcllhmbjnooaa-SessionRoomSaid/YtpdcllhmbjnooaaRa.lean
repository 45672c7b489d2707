/- The reference's hub: as it lies in memory; finding, reading and writing. -/
import Derived.Test.YtpdcllhmbjnooaaSeL
import Derived.Test.YtpdcllhmbjnooaaSeT
import Derived.Test.YtpdcllhmbjnooaaFl
namespace Go.Proofs.Ytpdcllhmbjnooaa
open Go.Dc
set_option maxRecDepth 10000

structure Rs where
  tok : Nat
  caps : Nat
  va : Value
  ans : List Msg
  acked : Nat
  size : Nat
  had : Nat
  has : Bool
  conn : Int
  since : Nat
structure Rh where
  blk : Nat
  caps : Nat
  size : Int
  away : Nat
  last : Nat
  vc : Value
  conns : List Int
  vl : Value
  sess : List Rs
  own : Nat → Tag

def Rs.cells (s : Rs) : List Value := [.int .u64 s.tok, .int .u32 s.caps, s.va, .int .i64 s.acked, (.int .i64 s.size), (.int .i64 s.had), .int .i64 0, .bool s.has, .int .i64 s.conn, .int .u32 s.since]
theorem Rs.len (s : Rs) : s.cells.length = 10 := rfl
def Rh.cells (g : Rh) : Array Value := #[.int .u32 g.caps, .int .i64 g.size, .int .u32 g.away, g.vc, g.vl, .int .u64 g.last]
/-- The cells of a message (28 of them, whatever is handed in). -/
def mL (m : Msg) : List Value := if m.size = 28 then m.toList else List.replicate 28 (.bool false)
theorem mL_len (m : Msg) : (mL m).length = 28 := by
  unfold mL
  split
  · simpa
  · simp
theorem mL_ok {m : Msg} (h : m.size = 28) : mL m = m.toList := if_pos h
def flatM (ms : List Msg) : List Value := flatL mL ms

structure RsRep (w : World) (own : Nat → Tag) (s : Rs) : Prop where
  va : Vec w 0 37 28 s.va s.ans.length (flatM s.ans)
  own : ∀ b ∈ ob s.va, own b = .sess s.tok 0
  msgs : ∀ m ∈ s.ans, MsgOk m
  ack : s.acked ≤ s.ans.length
  len : s.ans.length < 1073741824
  hadB : s.had < 4294967296
  s1 : 1 ≤ s.size
  s8 : s.size ≤ 8
  caps : s.caps < 4294967296
  since : s.since < 4294967296

structure RRep (w : World) (g : Rh) : Prop where
  at_ : hp w g.blk = some (.cells g.cells 75 (0, 0))
  vc : Vec w 0 3 1 g.vc g.conns.length (g.conns.map I)
  vl : Vec w 0 116 10 g.vl g.sess.length (flatL Rs.cells g.sess)
  sess : ∀ s ∈ g.sess, RsRep w g.own s
  o0 : g.own g.blk = .hub 0
  o1 : ∀ b ∈ ob g.vc, g.own b = .hub 1
  o2 : ∀ b ∈ ob g.vl, g.own b = .hub 2
  lt : ∀ b, g.own b ≠ .none → b < w.heap.size
  caps : g.caps < 4294967296
  away : g.away < 4294967296
  last : g.last < 18446744073709551616
  ndS : (g.sess.map (·.tok)).Nodup

def Rs.abs (s : Rs) : MS := ⟨s.tok, s.caps, s.ans.drop s.acked, s.acked, s.size, min (s.had + s.size) 1073741824, if s.has then some s.conn else none, s.since⟩
def Rh.abs (g : Rh) : MH := ⟨g.caps, g.size, g.away, g.last, g.conns, g.sess.map Rs.abs⟩

theorem RsRep.ext {w w' : World} {own : Nat → Tag} {s : Rs} {S : List Nat} (h : RsRep w own s) (x : Ext S w w') (hS : ∀ b ∈ S, own b ≠ .sess s.tok 0) : RsRep w' own s :=
  { h with va := h.va.ext x fun b hb hs => hS b hs (h.own b hb) }

/-- Nothing that the hub has is among the blocks that are other than they were. -/
theorem RRep.ext {w w' : World} {g : Rh} {S : List Nat} (h : RRep w g) (x : Ext S w w') (hS : ∀ b ∈ S, g.own b = .none) : RRep w' g := by
  have nS : ∀ b, g.own b ≠ .none → b ∉ S := fun b hb hs => hb (hS b hs)
  refine { h with at_ := ?_, vc := ?_, vl := ?_, sess := ?_, lt := ?_ }
  · exact x.at h.at_ (nS _ (by rw [h.o0]; simp))
  · exact h.vc.ext x fun b hb => nS b (by rw [h.o1 b hb]; simp)
  · exact h.vl.ext x fun b hb => nS b (by rw [h.o2 b hb]; simp)
  · exact fun s hs => (h.sess s hs).ext x fun b hb e => by have := hS b hb; rw [e] at this; cases this
  · exact fun b hb => Nat.lt_of_lt_of_le (h.lt b hb) x.size

theorem RRep.drw {w : World} {g : Rh} (h : RRep w g) : RRep (drw w) g := h.ext (Ext.drw (Ext.refl [] w)) (by simp)
theorem RRep.alloc {w : World} {g : Rh} (h : RRep w g) (o : Obj) : RRep (w.alloc o) g := h.ext (Ext.alloc (Ext.refl [] w)) (by simp)
theorem RRep.fresh {w : World} {g : Rh} (h : RRep w g) {b : Nat} (hb : w.heap.size ≤ b) : g.own b = .none := by
  cases ho : g.own b <;> first | rfl | (have := h.lt b (by rw [ho]; simp); omega)

/-! ### Cells -/

theorem RRep.cell {w : World} {g : Rh} (h : RRep w g) {k j : Nat} {s : Rs} {u : Value} (hk : g.sess[k]? = some s) (hj : s.cells[j]? = some u) :
    ∃ L cap, g.vl = .slice (some ⟨L, 0, none⟩) g.sess.length cap ∧ cellOf (hp w L) (k * 10 + j) = some u := by
  have hj10 : j < 10 := by have := (List.getElem?_eq_some_iff.1 hj).1; rwa [Rs.len] at this
  have e : (flatL Rs.cells g.sess)[k * 10 + j]? = some u := by
    rw [flatL_get Rs.len _ _ _ hj10, hk]
    exact hj
  obtain ⟨L, cap, cur, h1, h2, h3⟩ := h.vl.get e
  exact ⟨L, cap, h1, by rw [h2, cellOf_some, h3]⟩

/-- Where the list of sessions lies, if there are any. -/
structure LAt (w : World) (g : Rh) (L cap : Nat) : Prop where
  vl : g.vl = .slice (some ⟨L, 0, none⟩) g.sess.length cap
  cell : ∀ k s, g.sess[k]? = some s → ∀ j u, s.cells[j]? = some u → cellOf (hp w L) (k * 10 + j) = some u
  row : ∀ k s, g.sess[k]? = some s → rowOf (hp w L) (k * 10) 10 = some (.agg s.cells.toArray)
  own : g.own L = .hub 2
theorem RRep.lat {w : World} {g : Rh} (h : RRep w g) (hn : g.sess ≠ []) : ∃ L cap, LAt w g L cap := by
  obtain ⟨s0, hs0⟩ : ∃ s, g.sess[0]? = some s := ⟨g.sess[0]'(List.length_pos_iff.2 hn), by simp⟩
  obtain ⟨L, cap, h1, _⟩ := h.cell (j := 0) hs0 rfl
  have hat : ∀ k s, g.sess[k]? = some s → ∀ j u, s.cells[j]? = some u → cellOf (hp w L) (k * 10 + j) = some u := fun k s hk j u hj => by
    obtain ⟨L', cap', h2, h3⟩ := h.cell hk hj
    rw [h1] at h2
    injection h2 with h2 _ _
    injection h2 with h2
    injection h2 with h2
    rw [h2]; exact h3
  refine ⟨L, cap, h1, hat, fun k s hk => ?_, h.o2 L (by rw [h1]; simp [ob])⟩
  obtain ⟨g', cap', cur, h2, h3, h4⟩ := Vec.rowAt Rs.len h.vl hk
  rw [h1] at h2
  injection h2 with h2 _ _
  injection h2 with h2
  injection h2 with h2
  subst h2
  rw [h3]
  exact h4

/-- The session at place k is another. -/
def Rh.setR (g : Rh) (k : Nat) (s : Rs) : Rh := { g with sess := g.sess.set k s }

theorem set_get {g : Rh} {k : Nat} {s s' : Rs} (hk : g.sess[k]? = some s) : (g.setR k s').sess[k]? = some s' := by
  unfold Rh.setR
  have := (List.getElem?_eq_some_iff.1 hk).1
  simp [this]
theorem set_toks {g : Rh} {k : Nat} {s s' : Rs} (hk : g.sess[k]? = some s) (ht : s'.tok = s.tok) : (g.sess.set k s').map (·.tok) = g.sess.map (·.tok) := by
  rw [List.map_set, ht]
  apply List.ext_getElem?
  intro i
  rw [List.getElem?_set]
  by_cases hi : k = i
  · subst hi
    have := (List.getElem?_eq_some_iff.1 hk)
    obtain ⟨h1, h2⟩ := this
    simp [h1, h2]
  · simp [hi]

/-- A session without a connection has none on record. -/
def Rh.Z (g : Rh) : Prop := ∀ s ∈ g.sess, s.has = false → s.conn = 0

/-- One cell of a session is written. -/
theorem RRep.write {w : World} {g : Rh} (h : RRep w g) {L cap : Nat} (hL : LAt w g L cap) {k j : Nat} {s s' : Rs} {v : Value} (hk : g.sess[k]? = some s) (hj : j < 10) (hc : s'.cells = s.cells.set j v) (ht : s'.tok = s.tok)
    (hr : ∀ w', Ext [L] w w' → RsRep w' g.own s') :
    ∃ cur, hp w L = some (.cells cur 116 (0, 0)) ∧ k * 10 + j < cur.size ∧ RRep (put w L (.cells (cur.setIfInBounds (k * 10 + j) v) 116 (0, 0))) (g.setR k s') ∧ LAt (put w L (.cells (cur.setIfInBounds (k * 10 + j) v) 116 (0, 0))) (g.setR k s') L cap := by
  have hkl := (List.getElem?_eq_some_iff.1 hk).1
  have hv := h.vl
  rw [hL.vl] at hv
  have hi : k * 10 + j < (flatL Rs.cells g.sess).length := by rw [flatL_length Rs.len]; omega
  obtain ⟨g', cap', cur, h1, h2, h3⟩ := hv.get (List.getElem?_eq_getElem hi)
  injection h1 with h1 _ _
  injection h1 with h1
  injection h1 with h1
  subst h1
  obtain ⟨h4, h5⟩ := hv.put (u := v) hi h2
  have x : Ext [L] w (put w L (.cells (cur.setIfInBounds (k * 10 + j) v) 116 (0, 0))) := Ext.put (Ext.refl _ _) (.inl (by simp))
  have nS : ∀ b, g.own b ≠ .hub 2 → b ∉ [L] := fun b hb hs => by simp at hs; rw [hs] at hb; exact hb hL.own
  rw [flatL_set Rs.len _ k j s s' v hj hk hc] at h5
  have hrep : RRep (put w L (.cells (cur.setIfInBounds (k * 10 + j) v) 116 (0, 0))) (g.setR k s') := by
    refine { h with at_ := ?_, vc := ?_, vl := ?_, sess := ?_, lt := ?_, ndS := ?_ }
    · exact x.at h.at_ (nS g.blk (by rw [h.o0]; simp))
    · exact h.vc.ext x fun b hb => nS b (by rw [h.o1 b hb]; simp)
    · have e : (g.setR k s').sess.length = g.sess.length := by simp [Rh.setR]
      rw [e]
      show Vec _ 0 116 10 g.vl g.sess.length (flatL Rs.cells (g.sess.set k s'))
      rw [hL.vl]
      exact h5
    · intro t ht'
      rcases List.mem_or_eq_of_mem_set ht' with ht' | rfl
      · exact (h.sess t ht').ext x fun b hb e => by simp at hb; rw [hb, hL.own] at e; cases e
      · exact hr _ x
    · exact fun b hb => by rw [size_put]; exact h.lt b hb
    · show ((g.sess.set k s').map (·.tok)).Nodup
      rw [set_toks hk ht]; exact h.ndS
  refine ⟨cur, h2, h4, hrep, ?_⟩
  obtain ⟨L', cap', hL'⟩ := hrep.lat (by intro e; have := congrArg List.length e; simp [Rh.setR] at this; rw [this] at hkl; simp at hkl)
  have e1 : (g.setR k s').vl = .slice (some ⟨L, 0, none⟩) (g.setR k s').sess.length cap := by show g.vl = _; rw [hL.vl]; simp [Rh.setR]
  have e2 := hL'.vl
  rw [e1] at e2
  injection e2 with e2 _ e3
  injection e2 with e2
  injection e2 with e2
  subst e2
  subst e3
  exact hL'
end Go.Proofs.Ytpdcllhmbjnooaa
