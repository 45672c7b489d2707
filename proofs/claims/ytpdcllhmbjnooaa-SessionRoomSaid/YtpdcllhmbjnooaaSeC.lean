/- Sessions: a hub of connections and sessions, as the program keeps it; what small changes make of it. -/
import Derived.Test.YtpdcllhmbjnooaaSeB
namespace Go.Proofs.Ytpdcllhmbjnooaa
open Go.Dc
set_option maxRecDepth 10000

inductive Tag where
  | none
  | hub (part : Nat)
  | conn (n : Int)
  | sess (tok part : Nat)

structure Cn where
  n : Int
  blk : Nat
  sess : Option Nat
structure Ss where
  tok : Nat
  caps : Nat
  blk : Nat
  t : Tb
  win : Wn
  conn : Option (Nat × Int)
  since : Nat
structure Hb where
  blk : Nat
  mc : Nat
  ml : Nat
  caps : Nat
  size : Int
  away : Nat
  last : Nat
  conns : List Cn
  sess : List Ss
  own : Nat → Tag

def ptO : Option Nat → Value
  | some b => pt b 0
  | none => .pointer none

def Ss.cells (s : Ss) : Array Value := #[.int .u64 s.tok, .int .u32 s.caps, pt s.t.blk 0, pt s.win.blk 0, ptO (s.conn.map (·.1)), .int .u32 s.since]

structure SsRep (w : World) (own : Nat → Tag) (s : Ss) : Prop where
  at_ : hp w s.blk = some (.cells s.cells 94 (0, 0))
  tb : TbRep w s.t
  win : WnRep w s.win
  o0 : own s.blk = .sess s.tok 0
  o1 : own s.t.blk = .sess s.tok 1
  o2 : own s.t.map = .sess s.tok 2
  o3 : own s.win.blk = .sess s.tok 3

structure HubRep (w : World) (g : Hb) : Prop where
  at_ : hp w g.blk = some (.cells #[.int .u32 g.caps, .int .i64 g.size, .int .u32 g.away, .map (some g.mc), .map (some g.ml), .int .u64 g.last] 84 (0, 0))
  mapC : MapIs (fun n : Int => Value.int .i64 n) (hp w g.mc) (g.conns.map fun c => (c.n, pt c.blk 0))
  mapS : MapIs (fun n : Int => Value.int .u64 n) (hp w g.ml) (g.sess.map fun s => ((s.tok : Int), pt s.blk 0))
  conn : ∀ c ∈ g.conns, hp w c.blk = some (.cells #[.int .i64 c.n, ptO c.sess] 88 (0, 0)) ∧ g.own c.blk = .conn c.n
  sess : ∀ s ∈ g.sess, SsRep w g.own s
  o0 : g.own g.blk = .hub 0
  o1 : g.own g.mc = .hub 1
  o2 : g.own g.ml = .hub 2
  lt : ∀ b, g.own b ≠ .none → b < w.heap.size
  ndC : (g.conns.map (·.n)).Nodup
  ndS : (g.sess.map (·.tok)).Nodup

theorem own_ne {own : Nat → Tag} {a b : Nat} {x y : Tag} (ha : own a = x) (hb : own b = y) (h : x ≠ y) : a ≠ b := fun e => h (by rw [← ha, ← hb, e])

theorem map_lt {α : Type} {key : α → Value} {w : World} {b : Nat} {l : List (α × Value)} (h : MapIs key (hp w b) l) : b < w.heap.size := by
  obtain ⟨_, _, h1, _⟩ := h
  exact lt_of_hp h1

/-- Nothing that the hub has is among the blocks that are other than they were. -/
theorem HubRep.ext {w w' : World} {g : Hb} {S : List Nat} (h : HubRep w g) (e : Ext S w w') (hS : ∀ b ∈ S, g.own b = .none) : HubRep w' g := by
  have key : ∀ b, g.own b ≠ .none → hp w' b = hp w b := fun b hb => e.same b (h.lt b hb) (fun hs => hb (hS b hs))
  have nS : ∀ b, g.own b ≠ .none → b ∉ S := fun b hb hs => hb (hS b hs)
  refine ⟨?_, ?_, ?_, fun c hc => ⟨?_, (h.conn c hc).2⟩, fun s hs => ?_, h.o0, h.o1, h.o2, fun b hb => Nat.lt_of_lt_of_le (h.lt b hb) e.size, h.ndC, h.ndS⟩
  · rw [key _ (by rw [h.o0]; simp)]; exact h.at_
  · rw [key _ (by rw [h.o1]; simp)]; exact h.mapC
  · rw [key _ (by rw [h.o2]; simp)]; exact h.mapS
  · rw [key _ (by rw [(h.conn c hc).2]; simp)]; exact (h.conn c hc).1
  · have hs' := h.sess s hs
    exact ⟨by rw [key _ (by rw [hs'.o0]; simp)]; exact hs'.at_, hs'.tb.ext e (nS _ (by rw [hs'.o1]; simp)) (nS _ (by rw [hs'.o2]; simp)), hs'.win.ext e (nS _ (by rw [hs'.o3]; simp)), hs'.o0, hs'.o1, hs'.o2, hs'.o3⟩

theorem HubRep.drw {w : World} {g : Hb} (h : HubRep w g) : HubRep (drw w) g := h.ext (Ext.drw (Ext.refl [] w)) (by simp)
theorem HubRep.alloc {w : World} {g : Hb} (h : HubRep w g) (o : Obj) : HubRep (w.alloc o) g := h.ext (Ext.alloc (Ext.refl [] w)) (by simp)
theorem HubRep.fresh {w : World} {g : Hb} (h : HubRep w g) {b : Nat} (hb : w.heap.size ≤ b) : g.own b = .none := by
  cases ho : g.own b <;> first | rfl | (have := h.lt b (by rw [ho]; simp); omega)
theorem HubRep.putFree {w : World} {g : Hb} (h : HubRep w g) {b : Nat} {o : Obj} (hb : g.own b = .none) : HubRep (put w b o) g := h.ext (Ext.put (Ext.refl [b] w) (.inl (by simp))) (by simpa using hb)

/-! ### Finding -/

def Hb.findC (g : Hb) (n : Int) : Option Cn := g.conns.find? (fun c => c.n == n)
def Hb.findS (g : Hb) (tok : Nat) : Option Ss := g.sess.find? (fun s => s.tok == tok)

theorem getM_map {α β : Type} [DecidableEq α] (f : β → α) (v : β → Value) (l : List β) (a : α) : getM (l.map fun x => (f x, v x)) a = (l.find? (fun x => f x == a)).map v := by
  induction l with
  | nil => rfl
  | cons x l ih =>
    simp only [List.map_cons, getM, List.find?_cons]
    by_cases h : a = f x
    · simp [h]
    · have : (f x == a) = false := by simp; exact fun e => h e.symm
      simp [if_neg h, this, ih]

theorem getC {g : Hb} (n : Int) : getM (g.conns.map fun c => (c.n, pt c.blk 0)) n = (g.findC n).map fun c => pt c.blk 0 := getM_map (fun c : Cn => c.n) _ _ _
theorem getS {g : Hb} (tok : Nat) : getM (g.sess.map fun s => ((s.tok : Int), pt s.blk 0)) (tok : Int) = (g.findS tok).map fun s => pt s.blk 0 := by
  rw [getM_map (fun s : Ss => (s.tok : Int)) (fun s => pt s.blk 0)]
  unfold Hb.findS
  congr 1
  congr 1
  funext s
  rw [Bool.eq_iff_iff]
  simp
  omega

theorem delM_map {α β : Type} [DecidableEq α] (f : β → α) (v : β → Value) (l : List β) (a : α) (hn : (l.map f).Nodup) : delM (l.map fun x => (f x, v x)) a = (l.filter (fun x => f x != a)).map fun x => (f x, v x) := by
  induction l with
  | nil => rfl
  | cons x l ih =>
    simp only [List.map_cons, List.nodup_cons] at hn
    simp only [List.map_cons, delM, List.filter_cons]
    by_cases h : a = f x
    · subst h
      have : l.filter (fun y => f y != f x) = l := List.filter_eq_self.2 fun y hy => by
        simp only [bne_iff_ne, ne_eq]
        exact fun e => hn.1 (List.mem_map.2 ⟨y, hy, e⟩)
      simp [this]
    · have : (f x != a) = true := by simp; exact fun e => h e.symm
      simp [if_neg h, this, ih hn.2]

theorem setM_new {α β : Type} [DecidableEq α] (f : β → α) (v : β → Value) (l : List β) (a : α) (u : Value) (hn : ∀ x ∈ l, f x ≠ a) : setM (l.map fun x => (f x, v x)) a u = (l.map fun x => (f x, v x)) ++ [(a, u)] := by
  induction l with
  | nil => rfl
  | cons x l ih =>
    simp only [List.map_cons, setM]
    rw [if_neg (fun e => hn x (by simp) e.symm), ih (fun y hy => hn y (by simp [hy]))]
    rfl

theorem find_mem {g : Hb} {n : Int} {c : Cn} (h : g.findC n = some c) : c ∈ g.conns ∧ c.n = n := ⟨List.mem_of_find?_eq_some h, by simpa using List.find?_some h⟩
theorem find_none {g : Hb} {n : Int} (h : g.findC n = none) : ∀ c ∈ g.conns, c.n ≠ n := fun c hc => by simpa using List.find?_eq_none.1 h c hc
theorem findS_mem {g : Hb} {t : Nat} {s : Ss} (h : g.findS t = some s) : s ∈ g.sess ∧ s.tok = t := ⟨List.mem_of_find?_eq_some h, by simpa using List.find?_some h⟩
theorem findS_none {g : Hb} {t : Nat} (h : g.findS t = none) : ∀ s ∈ g.sess, s.tok ≠ t := fun s hs => by simpa using List.find?_eq_none.1 h s hs

theorem nodup_inj {α β : Type} {f : α → β} {l : List α} (hn : (l.map f).Nodup) {a b : α} (ha : a ∈ l) (hb : b ∈ l) (h : f a = f b) : a = b := by
  induction l with
  | nil => cases ha
  | cons x l ih =>
    simp only [List.map_cons, List.nodup_cons] at hn
    rcases List.mem_cons.1 ha with g | g <;> rcases List.mem_cons.1 hb with g' | g'
    · rw [g, g']
    · exact absurd (by rw [← g, h]; exact List.mem_map.2 ⟨b, g', rfl⟩ : f x ∈ l.map f) hn.1
    · exact absurd (by rw [← g', ← h]; exact List.mem_map.2 ⟨a, g, rfl⟩ : f x ∈ l.map f) hn.1
    · exact ih hn.2 g g'

theorem HubRep.connInj {w : World} {g : Hb} (h : HubRep w g) {c c' : Cn} (hc : c ∈ g.conns) (hc' : c' ∈ g.conns) (hb : c.blk = c'.blk) : c = c' := by
  refine nodup_inj h.ndC hc hc' ?_
  have h1 := (h.conn c hc).2
  have h2 := (h.conn c' hc').2
  rw [hb, h2] at h1
  injection h1 with h1
  exact h1.symm
theorem HubRep.sessInj {w : World} {g : Hb} (h : HubRep w g) {s s' : Ss} (hs : s ∈ g.sess) (hs' : s' ∈ g.sess) (hb : s.blk = s'.blk) : s = s' := by
  refine nodup_inj h.ndS hs hs' ?_
  have h1 := (h.sess s hs).o0
  have h2 := (h.sess s' hs').o0
  rw [hb, h2] at h1
  injection h1 with h1
  exact h1.symm

/-! ### Small changes -/

/-- The connection in block b has another session. -/
def Hb.setC (g : Hb) (b : Nat) (x : Option Nat) : Hb := { g with conns := g.conns.map fun c => if c.blk = b then { c with sess := x } else c }
/-- The session in block b is another. -/
def Hb.setS (g : Hb) (b : Nat) (f : Ss → Ss) : Hb := { g with sess := g.sess.map fun s => if s.blk = b then f s else s }
def Hb.delC (g : Hb) (n : Int) : Hb := { g with conns := g.conns.filter fun c => c.n != n }
def Hb.delS (g : Hb) (tok : Nat) : Hb := { g with sess := g.sess.filter fun s => s.tok != tok }

theorem HubRep.setC {w : World} {g : Hb} (h : HubRep w g) {c : Cn} (hc : c ∈ g.conns) (x : Option Nat) : HubRep (put w c.blk (.cells #[.int .i64 c.n, ptO x] 88 (0, 0))) (g.setC c.blk x) := by
  have ho := (h.conn c hc).2
  have hlt := lt_of_hp (h.conn c hc).1
  have nb : ∀ b t, g.own b = t → t ≠ .conn c.n → b ≠ c.blk := fun b t hb ht => own_ne hb ho ht
  have e : Ext [c.blk] w (put w c.blk (.cells #[.int .i64 c.n, ptO x] 88 (0, 0))) := Ext.put (Ext.refl _ _) (.inl (by simp))
  have key : ∀ b t, g.own b = t → t ≠ .conn c.n → hp (put w c.blk (.cells #[.int .i64 c.n, ptO x] 88 (0, 0))) b = hp w b := fun b t hb ht => by rw [hp_put, if_neg (nb b t hb ht)]
  have hn : (g.setC c.blk x).conns.map (·.n) = g.conns.map (·.n) := by
    unfold Hb.setC
    rw [List.map_map]
    apply List.map_congr_left
    intro c' _
    simp only [Function.comp_apply]
    split <;> rfl
  have hm : (g.setC c.blk x).conns.map (fun c => (c.n, pt c.blk 0)) = g.conns.map (fun c => (c.n, pt c.blk 0)) := by
    unfold Hb.setC
    rw [List.map_map]
    apply List.map_congr_left
    intro c' _
    simp only [Function.comp_apply]
    split <;> rfl
  refine ⟨by rw [show (g.setC c.blk x).blk = g.blk from rfl, key _ _ h.o0 (by simp)]; exact h.at_, by rw [hm, show (g.setC c.blk x).mc = g.mc from rfl, key _ _ h.o1 (by simp)]; exact h.mapC,
    by rw [show (g.setC c.blk x).ml = g.ml from rfl, key _ _ h.o2 (by simp)]; exact h.mapS, fun c' hc' => ?_, fun s hs => ?_, h.o0, h.o1, h.o2, fun b hb => by rw [size_put]; exact h.lt b hb, by rw [hn]; exact h.ndC, h.ndS⟩
  · unfold Hb.setC at hc'
    simp only [List.mem_map] at hc'
    obtain ⟨c0, hc0, rfl⟩ := hc'
    by_cases hb : c0.blk = c.blk
    · have : c0 = c := h.connInj hc0 hc hb
      subst this
      rw [if_pos rfl]
      exact ⟨by rw [hp_put, if_pos rfl, if_pos hlt], ho⟩
    · rw [if_neg hb]
      exact ⟨by rw [hp_put, if_neg hb]; exact (h.conn c0 hc0).1, (h.conn c0 hc0).2⟩
  · have hs' := h.sess s hs
    exact ⟨by rw [key _ _ hs'.o0 (by simp)]; exact hs'.at_, hs'.tb.ext e (by simp; exact nb _ _ hs'.o1 (by simp)) (by simp; exact nb _ _ hs'.o2 (by simp)), hs'.win.ext e (by simp; exact nb _ _ hs'.o3 (by simp)), hs'.o0, hs'.o1, hs'.o2, hs'.o3⟩

/-- A session's table, window and cells are others; its number and places stay. -/
theorem HubRep.setS {w w' : World} {g : Hb} (h : HubRep w g) {s : Ss} (hs : s ∈ g.sess) (f : Ss → Ss) (e : Ext [s.blk, s.t.blk, s.t.map, s.win.blk] w w')
    (ht : (f s).tok = s.tok) (hb : (f s).blk = s.blk) (hr : SsRep w' g.own (f s)) : HubRep w' (g.setS s.blk f) := by
  have h0 := h.sess s hs
  have nb : ∀ b t, g.own b = t → (∀ p, t ≠ .sess s.tok p) → b ∉ [s.blk, s.t.blk, s.t.map, s.win.blk] := fun b t hb ht => by
    simp only [List.mem_cons, List.not_mem_nil, or_false, not_or]
    exact ⟨own_ne hb h0.o0 (ht 0), own_ne hb h0.o1 (ht 1), own_ne hb h0.o2 (ht 2), own_ne hb h0.o3 (ht 3)⟩
  have key : ∀ b t, g.own b = t → t ≠ .none → (∀ p, t ≠ .sess s.tok p) → hp w' b = hp w b := fun b t hb hn ht => e.same b (h.lt b (by rw [hb]; exact hn)) (nb b t hb ht)
  have same : ∀ s' ∈ g.sess, (if s'.blk = s.blk then f s' else s').tok = s'.tok ∧ (if s'.blk = s.blk then f s' else s').blk = s'.blk := by
    intro s' hs'
    by_cases hbb : s'.blk = s.blk
    · have := h.sessInj hs' hs hbb
      subst this
      rw [if_pos rfl]
      exact ⟨ht, hb⟩
    · rw [if_neg hbb]; exact ⟨rfl, rfl⟩
  have hn : (g.setS s.blk f).sess.map (·.tok) = g.sess.map (·.tok) := by
    unfold Hb.setS
    rw [List.map_map]
    exact List.map_congr_left fun s' hs' => (same s' hs').1
  have hm : (g.setS s.blk f).sess.map (fun s => ((s.tok : Int), pt s.blk 0)) = g.sess.map (fun s => ((s.tok : Int), pt s.blk 0)) := by
    unfold Hb.setS
    rw [List.map_map]
    apply List.map_congr_left
    intro s' hs'
    simp only [Function.comp_apply, (same s' hs').1, (same s' hs').2]
  refine ⟨by rw [show (g.setS s.blk f).blk = g.blk from rfl, key _ _ h.o0 (by simp) (by simp)]; exact h.at_, by rw [show (g.setS s.blk f).mc = g.mc from rfl, key _ _ h.o1 (by simp) (by simp)]; exact h.mapC,
    by rw [hm, show (g.setS s.blk f).ml = g.ml from rfl, key _ _ h.o2 (by simp) (by simp)]; exact h.mapS, fun c hc => ?_, fun s' hs' => ?_, h.o0, h.o1, h.o2, fun b hb => Nat.lt_of_lt_of_le (h.lt b hb) e.size, h.ndC, by rw [hn]; exact h.ndS⟩
  · exact ⟨by rw [key _ _ (h.conn c hc).2 (by simp) (by simp)]; exact (h.conn c hc).1, (h.conn c hc).2⟩
  · unfold Hb.setS at hs'
    simp only [List.mem_map] at hs'
    obtain ⟨s0, hs0, rfl⟩ := hs'
    by_cases hbb : s0.blk = s.blk
    · have := h.sessInj hs0 hs hbb
      subst this
      rw [if_pos rfl]
      exact hr
    · rw [if_neg hbb]
      have h1 := h.sess s0 hs0
      have hne : s0.tok ≠ s.tok := fun e => hbb (by rw [nodup_inj h.ndS hs0 hs e])
      have np : ∀ q p : Nat, Tag.sess s0.tok q ≠ .sess s.tok p := fun q p e => hne (by injection e)
      exact ⟨by rw [key _ _ h1.o0 (by simp) (np 0)]; exact h1.at_, h1.tb.ext e (nb _ _ h1.o1 (np 1)) (nb _ _ h1.o2 (np 2)), h1.win.ext e (nb _ _ h1.o3 (np 3)), h1.o0, h1.o1, h1.o2, h1.o3⟩

theorem HubRep.delC {w : World} {g : Hb} (h : HubRep w g) (n : Int) {o : Obj} (ho : MapIs (fun n : Int => Value.int .i64 n) (some o) (delM (g.conns.map fun c => (c.n, pt c.blk 0)) n)) : HubRep (put w g.mc o) (g.delC n) := by
  rw [delM_map (fun c : Cn => c.n) _ _ _ h.ndC] at ho
  have nb : ∀ b t, g.own b = t → t ≠ .hub 1 → b ≠ g.mc := fun b t hb ht => own_ne hb h.o1 ht
  have key : ∀ b t, g.own b = t → t ≠ .hub 1 → hp (put w g.mc o) b = hp w b := fun b t hb ht => by rw [hp_put, if_neg (nb b t hb ht)]
  have e : Ext [g.mc] w (put w g.mc o) := Ext.put (Ext.refl _ _) (.inl (by simp))
  refine ⟨by rw [show (g.delC n).blk = g.blk from rfl, key _ _ h.o0 (by simp)]; exact h.at_, by rw [show (g.delC n).mc = g.mc from rfl, hp_put, if_pos rfl, if_pos (map_lt h.mapC)]; exact ho,
    by rw [show (g.delC n).ml = g.ml from rfl, key _ _ h.o2 (by simp)]; exact h.mapS, fun c hc => ?_, fun s hs => ?_, h.o0, h.o1, h.o2, fun b hb => by rw [size_put]; exact h.lt b hb, ?_, h.ndS⟩
  · have hc' : c ∈ g.conns := (List.mem_filter.1 hc).1
    exact ⟨by rw [key _ _ (h.conn c hc').2 (by simp)]; exact (h.conn c hc').1, (h.conn c hc').2⟩
  · have hs' := h.sess s hs
    exact ⟨by rw [key _ _ hs'.o0 (by simp)]; exact hs'.at_, hs'.tb.ext e (by simp; exact nb _ _ hs'.o1 (by simp)) (by simp; exact nb _ _ hs'.o2 (by simp)), hs'.win.ext e (by simp; exact nb _ _ hs'.o3 (by simp)), hs'.o0, hs'.o1, hs'.o2, hs'.o3⟩
  · exact (List.Sublist.map _ List.filter_sublist).nodup h.ndC

theorem HubRep.delS {w : World} {g : Hb} (h : HubRep w g) (tok : Nat) {o : Obj} (ho : MapIs (fun n : Int => Value.int .u64 n) (some o) (delM (g.sess.map fun s => ((s.tok : Int), pt s.blk 0)) (tok : Int))) : HubRep (put w g.ml o) (g.delS tok) := by
  have hnd : (g.sess.map fun s => (s.tok : Int)).Nodup := by
    have := h.ndS
    rw [List.nodup_iff_pairwise_ne, List.pairwise_map] at this ⊢
    exact this.imp fun h e => h (Int.ofNat.inj e)
  rw [delM_map (fun s : Ss => (s.tok : Int)) (fun s => pt s.blk 0) _ _ hnd] at ho
  have hfil : (g.sess.filter fun s => ((s.tok : Int) != (tok : Int))) = (g.delS tok).sess := by
    unfold Hb.delS
    apply List.filter_congr
    intro s _
    rw [Bool.eq_iff_iff]
    simp
    omega
  rw [hfil] at ho
  have nb : ∀ b t, g.own b = t → t ≠ .hub 2 → b ≠ g.ml := fun b t hb ht => own_ne hb h.o2 ht
  have key : ∀ b t, g.own b = t → t ≠ .hub 2 → hp (put w g.ml o) b = hp w b := fun b t hb ht => by rw [hp_put, if_neg (nb b t hb ht)]
  have e : Ext [g.ml] w (put w g.ml o) := Ext.put (Ext.refl _ _) (.inl (by simp))
  refine ⟨by rw [show (g.delS tok).blk = g.blk from rfl, key _ _ h.o0 (by simp)]; exact h.at_, by rw [show (g.delS tok).mc = g.mc from rfl, key _ _ h.o1 (by simp)]; exact h.mapC,
    by rw [show (g.delS tok).ml = g.ml from rfl, hp_put, if_pos rfl, if_pos (map_lt h.mapS)]; exact ho, fun c hc => ?_, fun s hs => ?_, h.o0, h.o1, h.o2, fun b hb => by rw [size_put]; exact h.lt b hb, h.ndC, ?_⟩
  · exact ⟨by rw [key _ _ (h.conn c hc).2 (by simp)]; exact (h.conn c hc).1, (h.conn c hc).2⟩
  · have hs' := h.sess s (List.mem_filter.1 hs).1
    exact ⟨by rw [key _ _ hs'.o0 (by simp)]; exact hs'.at_, hs'.tb.ext e (by simp; exact nb _ _ hs'.o1 (by simp)) (by simp; exact nb _ _ hs'.o2 (by simp)), hs'.win.ext e (by simp; exact nb _ _ hs'.o3 (by simp)), hs'.o0, hs'.o1, hs'.o2, hs'.o3⟩
  · exact (List.Sublist.map _ List.filter_sublist).nodup h.ndS
end Go.Proofs.Ytpdcllhmbjnooaa
