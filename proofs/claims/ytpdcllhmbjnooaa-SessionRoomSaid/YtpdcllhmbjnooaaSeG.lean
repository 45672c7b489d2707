/- Sessions: a session begins. -/
import Derived.Test.YtpdcllhmbjnooaaSeF
namespace Go.Proofs.Ytpdcllhmbjnooaa
open Go.Dc
set_option maxRecDepth 10000

structure MF where
  kind : Nat
  req : Nat
  caps : Nat
  tok : Nat
  n : Nat
structure MsgF (m : Msg) (f : MF) : Prop where
  ok : MsgOk m
  k0 : m[0]? = some (.int .u8 f.kind)
  k1 : m[1]? = some (.int .u32 f.req)
  k2 : m[2]? = some (.int .u32 f.caps)
  k3 : m[3]? = some (.int .u64 f.tok)
  k5 : m[5]? = some (.int .u32 f.n)
  b0 : f.kind < 256
  b1 : f.req < 4294967296
  b2 : f.caps < 4294967296
  b3 : f.tok < 18446744073709551616
  b5 : f.n < 4294967296

theorem andI_u32 (a b : Nat) (ha : a < 4294967296) (hb : b < 4294967296) : andI .u32 (a : Int) (b : Int) = ((a &&& b : Nat) : Int) := by
  unfold andI
  have e : (BitVec.ofInt IntKind.u32.bits (a : Int) &&& BitVec.ofInt IntKind.u32.bits (b : Int)).toNat = a &&& b := by
    have h1 : (BitVec.ofInt IntKind.u32.bits (a : Int)).toNat = a := by
      simp [IntKind.bits]; omega
    have h2 : (BitVec.ofInt IntKind.u32.bits (b : Int)).toNat = b := by
      simp [IntKind.bits]; omega
    rw [BitVec.toNat_and, h1, h2]
  rw [e]
  have : a &&& b ≤ a := Nat.and_le_left
  exact wrap_u32 _ (by omega) (by omega)

theorem put_put (w : World) (b : Nat) (o o' : Obj) : put (put w b o) b o' = put w b o' := by
  unfold put
  simp

theorem HubRep.setLast {w : World} {g : Hb} (h : HubRep w g) (l : Nat) : HubRep (put w g.blk (.cells #[.int .u32 g.caps, .int .i64 g.size, .int .u32 g.away, .map (some g.mc), .map (some g.ml), .int .u64 l] 84 (0, 0))) { g with last := l } := by
  have nb : ∀ b t, g.own b = t → t ≠ .hub 0 → b ≠ g.blk := fun b t hb ht => own_ne hb h.o0 ht
  generalize hW : put w g.blk _ = W
  have key : ∀ b t, g.own b = t → t ≠ .hub 0 → hp W b = hp w b := fun b t hb ht => by rw [← hW, hp_put, if_neg (nb b t hb ht)]
  have e : Ext [g.blk] w W := by rw [← hW]; exact Ext.put (Ext.refl _ _) (.inl (by simp))
  have hs : W.heap.size = w.heap.size := by rw [← hW]; simp
  refine ⟨by rw [← hW]; simp [lt_of_hp h.at_], by rw [key _ _ h.o1 (by simp)]; exact h.mapC, by rw [key _ _ h.o2 (by simp)]; exact h.mapS, fun c hc => ⟨by rw [key _ _ (h.conn c hc).2 (by simp)]; exact (h.conn c hc).1, (h.conn c hc).2⟩, fun s hs => ?_, h.o0, h.o1, h.o2,
    fun b hb => by rw [hs]; exact h.lt b hb, h.ndC, h.ndS⟩
  have hs' := h.sess s hs
  exact ⟨by rw [key _ _ hs'.o0 (by simp)]; exact hs'.at_, hs'.tb.ext e (by simp; exact nb _ _ hs'.o1 (by simp)) (by simp; exact nb _ _ hs'.o2 (by simp)), hs'.win.ext e (by simp; exact nb _ _ hs'.o3 (by simp)), hs'.o0, hs'.o1, hs'.o2, hs'.o3⟩

/-- The blocks of a new session are its own. -/
def ownS (own : Nat → Tag) (s : Ss) : Nat → Tag := fun b =>
  if b = s.blk then .sess s.tok 0 else if b = s.t.blk then .sess s.tok 1 else if b = s.t.map then .sess s.tok 2 else if b = s.win.blk then .sess s.tok 3 else own b

theorem HubRep.addS {w : World} {g : Hb} (h : HubRep w g) {s : Ss} (hat : hp w s.blk = some (.cells s.cells 94 (0, 0))) (ht : TbRep w s.t) (hwn : WnRep w s.win)
    (f0 : g.own s.blk = .none) (f1 : g.own s.t.blk = .none) (f2 : g.own s.t.map = .none) (f3 : g.own s.win.blk = .none)
    (d1 : s.t.blk ≠ s.blk) (d2 : s.t.map ≠ s.blk) (d3 : s.win.blk ≠ s.blk) (d4 : s.win.blk ≠ s.t.blk) (d5 : s.win.blk ≠ s.t.map)
    (hn : ∀ s' ∈ g.sess, s'.tok ≠ s.tok) {o : Obj} (hm : MapIs (fun n : Int => Value.int .u64 n) (some o) (setM (g.sess.map fun s => ((s.tok : Int), pt s.blk 0)) (s.tok : Int) (pt s.blk 0))) :
    HubRep (put w g.ml o) { g with sess := g.sess ++ [s], own := ownS g.own s } := by
  rw [setM_new (fun s : Ss => (s.tok : Int)) (fun s => pt s.blk 0) _ _ _ (fun s' hs' e => hn s' hs' (by omega))] at hm
  have ow : ∀ b, g.own b ≠ .none → ownS g.own s b = g.own b := fun b hb => by
    unfold ownS
    rw [if_neg (fun e => hb (by rw [e, f0])), if_neg (fun e => hb (by rw [e, f1])), if_neg (fun e => hb (by rw [e, f2])), if_neg (fun e => hb (by rw [e, f3]))]
  have nb1 : ∀ b t, g.own b = t → t ≠ .hub 2 → b ≠ g.ml := fun b t hb ht => own_ne hb h.o2 ht
  have key : ∀ b t, g.own b = t → t ≠ .hub 2 → hp (put w g.ml o) b = hp w b := fun b t hb ht => by rw [hp_put, if_neg (nb1 b t hb ht)]
  have e : Ext [g.ml] w (put w g.ml o) := Ext.put (Ext.refl _ _) (.inl (by simp))
  refine ⟨by rw [key _ _ h.o0 (by simp)]; exact h.at_, by rw [key _ _ h.o1 (by simp)]; exact h.mapC, by rw [hp_put, if_pos rfl, if_pos (map_lt h.mapS)]; simpa using hm,
    fun c hc => ⟨by rw [key _ _ (h.conn c hc).2 (by simp)]; exact (h.conn c hc).1, (ow _ (by rw [(h.conn c hc).2]; simp)).trans (h.conn c hc).2⟩, fun s' hs => ?_, (ow _ (by rw [h.o0]; simp)).trans h.o0, (ow _ (by rw [h.o1]; simp)).trans h.o1, (ow _ (by rw [h.o2]; simp)).trans h.o2, fun b hb => ?_, h.ndC, ?_⟩
  · rcases List.mem_append.1 hs with hs | hs
    · have hs' := h.sess s' hs
      exact ⟨by rw [key _ _ hs'.o0 (by simp)]; exact hs'.at_, hs'.tb.ext e (by simp; exact nb1 _ _ hs'.o1 (by simp)) (by simp; exact nb1 _ _ hs'.o2 (by simp)), hs'.win.ext e (by simp; exact nb1 _ _ hs'.o3 (by simp)),
        (ow _ (by rw [hs'.o0]; simp)).trans hs'.o0, (ow _ (by rw [hs'.o1]; simp)).trans hs'.o1, (ow _ (by rw [hs'.o2]; simp)).trans hs'.o2, (ow _ (by rw [hs'.o3]; simp)).trans hs'.o3⟩
    · simp at hs
      subst hs
      exact ⟨by rw [key _ _ f0 (by simp)]; exact hat, ht.ext e (by simp; exact nb1 _ _ f1 (by simp)) (by simp; exact nb1 _ _ f2 (by simp)), hwn.ext e (by simp; exact nb1 _ _ f3 (by simp)),
        by simp [ownS], by simp [ownS, d1], by simp [ownS, d2, Ne.symm ht.ne], by simp [ownS, d3, d4, d5]⟩
  · rw [size_put]
    by_cases h0 : b = s.blk
    · rw [h0]; exact lt_of_hp hat
    by_cases h1 : b = s.t.blk
    · rw [h1]; exact lt_of_hp ht.at_
    by_cases h2 : b = s.t.map
    · rw [h2]; exact ht.mapLt
    by_cases h3 : b = s.win.blk
    · rw [h3]; exact hwn.lt
    · simp only [ownS, if_neg h0, if_neg h1, if_neg h2, if_neg h3] at hb
      exact h.lt b hb
  · simp only [List.map_append, List.map_cons, List.map_nil]
    rw [List.nodup_append]
    refine ⟨h.ndS, by simp, fun x hx y hy => ?_⟩
    simp at hy
    subst hy
    obtain ⟨s', hs', rfl⟩ := List.mem_map.1 hx
    exact hn s' hs'

/-- A turn that a call made goes through the variable of the result. -/
theorem through {w w1 w2 : World} {g g2 : Hb} {vb : Nat} {v : Value} {t : MT} {K : Cont} {c : Array Value} (hr : HubRep w g) (x1 : Ext [] w w1) (hst : Step w1 g w2 g2) (hT : TurnRep w2 g2.own w1.heap.size v t) (h1 : w.heap.size ≤ vb) (hv : hp w1 vb = some (.cells c 45 (0, 0))) (hc : c.size = 4)
    (h : ∀ w', Step w g w' g2 → TurnRep w' g2.own w.heap.size v t → K v w') : st 45 (pt vb 0) v (fun _ => (fun w' => ldq 45 (pt vb 0) (fun x => K x w') w')) w2 := by
  obtain ⟨vo, vs, rfl, h2, h3⟩ := hT.at_
  have hlt := lt_of_hp hv
  have ho : g.own vb = .none := hr.fresh h1
  have hv2 : hp w2 vb = some (.cells c 45 (0, 0)) := by rw [hst.same _ hlt ho]; exact hv
  have hlt2 := lt_of_hp hv2
  simp [hv2, hc, h2.one, h3.one, hlt2]
  have e : Ext [vb] w2 (put w2 vb (.cells #[vo, vs, .bool t.do_, .int .u64 t.tok] 45 (0, 0))) := Ext.put (Ext.refl _ _) (.inl (by simp))
  refine h _ (Step.around x1 hst e (by simp; exact ⟨h1, hst.own _ hlt ho⟩)) ((hT.ext e (by simp; omega)).base x1.size)

/-! ### Hello -/

def MH.newS (m : MH) (n : Int) (f : MF) : MS := ⟨m.last + 1, m.caps &&& f.caps, [], 0, sizeOfWin m.size, sizeOfWin m.size, some n, 0⟩
def MH.hello (m : MH) (n : Int) (now : Nat) (f : MF) : MH × MT :=
  if m.caps &&& f.caps = 0 then (m.close n now, shutT n 5 181)
  else if 8 ≤ m.sess.length then (m.close n now, shutT n 5 4)
  else ({ m with last := m.last + 1, sess := m.sess ++ [m.newS n f] }, ⟨[mWel (m.caps &&& f.caps : Nat) (m.last + 1 : Nat) (sizeOfWin m.size)], [], false, 0⟩)

theorem setM_setM {α : Type} [DecidableEq α] (l : List (α × Value)) (a : α) (u v : Value) : setM (setM l a u) a v = setM l a v := by
  induction l with
  | nil => simp [setM]
  | cons x l ih =>
    obtain ⟨b, y⟩ := x
    by_cases h : a = b
    · simp [h, setM]
    · simp [setM, if_neg h, ih]

/-- A session more, on a connection that had none. -/
def Hb.newS (g : Hb) (c : Cn) (s : Ss) : Hb := { (({ g with last := s.tok } : Hb).setC c.blk (some s.blk)) with sess := g.sess ++ [s], own := ownS g.own s }

theorem newS_abs (g : Hb) (c : Cn) (s : Ss) : (g.newS c s).abs = { g.abs with last := s.tok, sess := g.abs.sess ++ [s.abs] } := by
  unfold Hb.newS Hb.abs Hb.setC
  simp only [List.map_append, List.map_map, List.map_cons, List.map_nil]
  congr 1
  apply List.map_congr_left
  intro c' _
  simp only [Function.comp_apply]
  split <;> rfl

theorem newS_wf {w : World} {g : Hb} (hr : HubRep w g) (hw : g.Wf) {c : Cn} (hc : c ∈ g.conns) (hcs : c.sess = none) {s : Ss} (hl : g.sess.length < 8) (ht : s.tok = g.last + 1) (hsc : s.conn = some (c.blk, c.n))
    (h1 : s.caps < 4294967296) (h2 : s.since < 4294967296) : (g.newS c s).Wf := by
  have mem : ∀ c', c' ∈ (g.newS c s).conns ↔ ∃ c0 ∈ g.conns, (if c0.blk = c.blk then { c0 with sess := some s.blk } else c0) = c' := by
    intro c'
    unfold Hb.newS Hb.setC
    simp only [List.mem_map]
  refine ⟨fun c' hc' sb hsb => ?_, fun s' hs' cb n hn => ?_, ?_, ?_, fun s' hs' => ?_, ?_, hw.caps, hw.away, fun s' hs' => ?_, fun s' hs' => ?_⟩
  · obtain ⟨c0, h0, rfl⟩ := (mem c').1 hc'
    by_cases hb : c0.blk = c.blk
    · have := hr.connInj h0 hc hb
      subst this
      simp only [if_true] at hsb ⊢
      injection hsb with hsb
      exact ⟨s, List.mem_append_right _ (by simp), hsb, hsc⟩
    · simp only [if_neg hb] at hsb ⊢
      obtain ⟨s', h3, h4⟩ := hw.cs c0 h0 sb hsb
      exact ⟨s', List.mem_append_left _ h3, h4⟩
  · rcases List.mem_append.1 hs' with hs' | hs'
    · obtain ⟨c', h3, h4, h5, h6⟩ := hw.sc s' hs' cb n hn
      refine ⟨c', (mem c').2 ⟨c', h3, if_neg fun hb => ?_⟩, h4, h5, h6⟩
      have := hr.connInj h3 hc hb
      rw [this, hcs] at h6
      cases h6
    · simp at hs'
      subst hs'
      rw [hsc] at hn
      injection hn with hn
      injection hn with h3 h4
      exact ⟨{ c with sess := some s'.blk }, (mem _).2 ⟨c, hc, by rw [if_pos rfl]⟩, h3, h4, rfl⟩
  · show ((g.conns.map _).length ≤ 8)
    rw [List.length_map]
    exact hw.lc
  · show ((g.sess ++ [s]).length ≤ 8)
    simp
    omega
  · rcases List.mem_append.1 hs' with hs' | hs'
    · have := hw.tok s' hs'
      show 1 ≤ s'.tok ∧ s'.tok ≤ s.tok
      omega
    · simp at hs'
      subst hs'
      show 1 ≤ s'.tok ∧ s'.tok ≤ s'.tok
      omega
  · show ((g.sess ++ [s]).map (·.tok)).Pairwise (· < ·)
    rw [List.map_append, List.pairwise_append]
    refine ⟨hw.asc, by simp, fun a ha b hb => ?_⟩
    simp at hb
    subst hb
    obtain ⟨s', hs', rfl⟩ := List.mem_map.1 ha
    have := (hw.tok s' hs').2
    omega
  · rcases List.mem_append.1 hs' with hs' | hs'
    · exact hw.scaps s' hs'
    · simp at hs'; subst hs'; exact h1
  · rcases List.mem_append.1 hs' with hs' | hs'
    · exact hw.since s' hs'
    · simp at hs'; subst hs'; exact h2

theorem hello_spec {w : World} {g : Hb} {c : Cn} {now : Nat} {m : Msg} {f : MF} {Q : Cont} (hr : HubRep w g) (hw : g.Wf) (hn : now < 4294967296) (hc : c ∈ g.conns) (hcs : c.sess = none) (hm : MsgF m f) (hl : g.last + 1 < 18446744073709551616)
    (h : ∀ w' g' v, Step w g w' g' → g'.abs = (g.abs.hello c.n now f).1 → TurnRep w' g'.own w.heap.size v (g.abs.hello c.n now f).2 → Q v w') :
    Ret pg n_session_Hub_hello #[pt g.blk 0, pt c.blk 0, .int .u32 now, .agg m] Q w := by
  apply session_Hub_hello_ok
  unfold session_Hub_hello
  have hlt := lt_of_hp hr.at_
  have e1 : g.blk ≠ w.heap.size := by omega
  have e2 : g.blk ≠ w.heap.size + 1 := by omega
  have hcaps := hw.caps
  simp [hr.at_, hm.k2, e1, e2]
  rw [andI_u32 _ _ hw.caps hm.b2]
  have hr1 : HubRep (drw ((w.alloc (.cells m 37)).alloc (.cells #[.slice none 0 0, .slice none 0 0, .bool false, .int .u64 0] 45))) g := ((hr.alloc _).alloc _).drw
  have x1 : Ext [] w (drw ((w.alloc (.cells m 37)).alloc (.cells #[.slice none 0 0, .slice none 0 0, .bool false, .int .u64 0] 45))) := (((Ext.refl _ _).alloc).alloc).drw
  generalize hW1 : drw ((w.alloc (.cells m 37)).alloc (.cells #[.slice none 0 0, .slice none 0 0, .bool false, .int .u64 0] 45)) = w1 at *
  have hs1 : w1.heap.size = w.heap.size + 2 := by rw [← hW1]; simp
  have hv1 : hp w1 (w.heap.size + 1) = some (.cells #[.slice none 0 0, .slice none 0 0, .bool false, .int .u64 0] 45 (0, 0)) := by rw [← hW1]; simp
  have hm1 : hp w1 w.heap.size = some (.cells m 37 (0, 0)) := by rw [← hW1]; simp
  have bad : ∀ code : Nat, code < 256 → (g.abs.hello c.n now f) = (g.abs.close c.n now, shutT c.n 5 code) → Ret pg n_session_Hub_shut #[pt g.blk 0, pt c.blk 0, .int .u32 now, .int .u8 5, .int .i64 code] (fun v10 => st 45 (pt (w.heap.size + 1) 0) v10 fun _ => (fun w' => ldq 45 (pt (w.heap.size + 1) 0) (fun v11 => Q v11 w') w')) w1 := by
    intro code hcode he
    refine shut_spec hr1 hw hn hc hcode fun w2 g2 v hst hab hT => ?_
    refine through (K := Q) hr x1 hst hT (by omega) hv1 rfl fun w' s1 t1 => h _ _ _ s1 (by rw [he]; exact hab) (by rw [he]; exact t1)
  by_cases h0 : g.caps &&& f.caps = 0
  · rw [ifB_pos (by simp [h0])]
    exact bad 181 (by decide) (by unfold MH.hello; rw [if_pos (show g.abs.caps &&& f.caps = 0 from h0)])
  rw [ifB_neg (by simp; omega)]
  have hsl : g.abs.sess.length = g.sess.length := by simp [Hb.abs]
  simp [hr1.at_]
  rw [len_map_uint64_p_session_session hr1.mapS]
  simp
  by_cases h8 : 8 ≤ g.sess.length
  · rw [ifB_pos (by simp; omega)]
    exact bad 4 (by decide) (by unfold MH.hello; rw [if_neg (show ¬ g.abs.caps &&& f.caps = 0 from h0), if_pos (by rw [hsl]; exact h8)])
  rw [ifB_neg (by simp; omega)]
  have hlt1 := lt_of_hp hr1.at_
  simp [hr1.at_, hlt1, hm1, Ne.symm e1, hm.k2]
  rw [wrap_u64 _ (by omega) (by omega)]
  have hr2 := (hr1.setLast (g.last + 1)).drw
  simp only [Int.natCast_add, Int.cast_ofNat_Int] at hr2
  have x2 : Ext [g.blk] w1 (drw (put w1 g.blk (.cells #[.int .u32 g.caps, .int .i64 g.size, .int .u32 g.away, .map (some g.mc), .map (some g.ml), .int .u64 ((g.last : Int) + 1)] 84 (0, 0)))) := ((Ext.refl _ _).put (.inl (by simp))).drw
  generalize hW2 : drw (put w1 g.blk (.cells #[.int .u32 g.caps, .int .i64 g.size, .int .u32 g.away, .map (some g.mc), .map (some g.ml), .int .u64 ((g.last : Int) + 1)] 84 (0, 0))) = w2 at *
  have hm2 : hp w2 w.heap.size = some (.cells m 37 (0, 0)) := by rw [← hW2]; simp [Ne.symm e1, hm1]
  have hv2 : hp w2 (w.heap.size + 1) = some (.cells #[.slice none 0 0, .slice none 0 0, .bool false, .int .u64 0] 45 (0, 0)) := by rw [← hW2]; simp [Ne.symm e2, hv1]
  have hs2 : w2.heap.size = w.heap.size + 2 := by rw [← hW2]; simp [hs1]
  have e3 : IntKind.wrap .u64 ((g.last : Int) + 1) = (g.last : Int) + 1 := wrap_u64 _ (by omega) (by omega)
  have e4 : andI .u32 (g.caps : Int) (f.caps : Int) = ((g.caps &&& f.caps : Nat) : Int) := andI_u32 _ _ hw.caps hm.b2
  have hg2 : hp w2 g.blk = some (.cells #[.int .u32 g.caps, .int .i64 g.size, .int .u32 g.away, .map (some g.mc), .map (some g.ml), .int .u64 ((g.last + 1 : Nat) : Int)] 84 (0, 0)) := hr2.at_
  refine dedup_New_spec _ _ fun w3 x3 s3 ht => ?_
  have hg3 := x3.at hg2 (by simp)
  have hm3 := x3.at hm2 (by simp)
  simp [hg3, hm3, hm.k2]
  refine credit_New_spec _ _ _ fun w4 x4 s4 hwn => ?_
  have hg4 := x4.at hg3 (by simp)
  have hm4 := x4.at hm3 (by simp)
  have ht4 := ht.ext x4 (by simp) (by simp)
  have hr4 := (hr2.ext x3 (by simp)).ext x4 (by simp)
  obtain ⟨hc4, hoc⟩ := hr4.conn c hc
  rw [hcs] at hc4
  have l1 := lt_of_hp hr4.at_
  have l2 := lt_of_hp hc4
  simp only at l1
  have e5 : g.blk ≠ w4.heap.size := by omega
  have e6 : c.blk ≠ w4.heap.size := by omega
  have e7 : w.heap.size ≠ w4.heap.size := by omega
  have l3 : c.blk < w4.heap.size + 1 := by omega
  have e8 : g.blk ≠ c.blk := own_ne hr.o0 (hr.conn c hc).2 (by simp)
  have e9 : w2.heap.size = w.heap.size + 2 := hs2
  simp [hg4, hm4, hm.k2, e5, e6, hc4]
  rw [e4]
  have hr5 := ((hr4.alloc (.cells #[.int .u64 ((g.last : Int) + 1), .int .u32 ((g.caps &&& f.caps : Nat) : Int), pt (w2.heap.size + 1) 0, pt w3.heap.size 0, pt c.blk 0, .int .u32 0] 94)).drw).setC hc (some w4.heap.size)
  have x5 : Ext [c.blk] w4 (put (drw (w4.alloc (.cells #[.int .u64 ((g.last : Int) + 1), .int .u32 ((g.caps &&& f.caps : Nat) : Int), pt (w2.heap.size + 1) 0, pt w3.heap.size 0, pt c.blk 0, .int .u32 0] 94))) c.blk (.cells #[.int .i64 c.n, ptO (some w4.heap.size)] 88 (0, 0))) := (((Ext.refl _ _).alloc).drw).put (.inl (by simp))
  simp only [ptO] at hr5 x5 ⊢
  rw [show (#[Value.int .i64 c.n, .pointer none].setIfInBounds 1 (pt w4.heap.size 0)) = #[.int .i64 c.n, pt w4.heap.size 0] from rfl]
  have hb5 : hp (put (drw (w4.alloc (.cells #[.int .u64 ((g.last : Int) + 1), .int .u32 ((g.caps &&& f.caps : Nat) : Int), pt (w2.heap.size + 1) 0, pt w3.heap.size 0, pt c.blk 0, .int .u32 0] 94))) c.blk (.cells #[.int .i64 c.n, pt w4.heap.size 0] 88 (0, 0))) w4.heap.size = some (.cells #[.int .u64 ((g.last : Int) + 1), .int .u32 ((g.caps &&& f.caps : Nat) : Int), pt (w2.heap.size + 1) 0, pt w3.heap.size 0, pt c.blk 0, .int .u32 0] 94 (0, 0)) := by simp [Ne.symm e6]
  have hs5 : (put (drw (w4.alloc (.cells #[.int .u64 ((g.last : Int) + 1), .int .u32 ((g.caps &&& f.caps : Nat) : Int), pt (w2.heap.size + 1) 0, pt w3.heap.size 0, pt c.blk 0, .int .u32 0] 94))) c.blk (.cells #[.int .i64 c.n, pt w4.heap.size 0] 88 (0, 0))).heap.size = w4.heap.size + 1 := by simp
  generalize hW5 : put (drw (w4.alloc _)) c.blk _ = w5 at *
  have hnt : ∀ s' ∈ g.sess, s'.tok ≠ g.last + 1 := fun s' hs' e => by have := (hw.tok s' hs').2; omega
  have hget : getM (g.sess.map fun s => ((s.tok : Int), pt s.blk 0)) ((g.last : Int) + 1) = none := by
    have := getS (g := g) (g.last + 1)
    rw [show g.findS (g.last + 1) = none from List.find?_eq_none.2 fun s' hs' => by simpa using hnt s' hs'] at this
    exact this
  have hmS : MapIs (fun n : Int => Value.int .u64 n) (hp w5 g.ml) (g.sess.map fun s => ((s.tok : Int), pt s.blk 0)) := hr5.mapS
  obtain ⟨o1, st1, ho1, hst1, hme⟩ := me_map_uint64_p_session_session hmS ((g.last : Int) + 1) hget
  rw [hme]
  have lm : g.ml < w5.heap.size := map_lt hmS
  have hnd : ((setM (g.sess.map fun s => ((s.tok : Int), pt s.blk 0)) ((g.last : Int) + 1) (.pointer none)).map (·.1)).Nodup := by
    rw [setM_new (fun s : Ss => (s.tok : Int)) (fun s => pt s.blk 0) _ _ _ (fun s' hs' e => hnt s' hs' (by omega)), List.map_append, List.map_map, List.nodup_append]
    refine ⟨?_, by simp, fun a ha b hb e => ?_⟩
    · have := hr.ndS
      rw [List.nodup_iff_pairwise_ne, List.pairwise_map] at this ⊢
      exact this.imp fun h e => h (Int.ofNat.inj e)
    · simp at ha hb
      obtain ⟨s', hs', rfl⟩ := ha
      exact hnt s' hs' (by omega)
  have ho1' : MapIs (fun n : Int => Value.int .u64 n) (hp (put w5 g.ml o1) g.ml) (setM (g.sess.map fun s => ((s.tok : Int), pt s.blk 0)) ((g.last : Int) + 1) (.pointer none)) := by
    rw [hp_put, if_pos rfl, if_pos lm]; exact ho1
  obtain ⟨o2, ho2, hes⟩ := es_map_uint64_p_session_session ho1' hnd ((g.last : Int) + 1) st1 (by rw [hp_put, if_pos rfl, if_pos lm]; exact hst1) (pt w4.heap.size 0)
  rw [setM_setM] at ho2
  rw [exq_tuple, show (#[Value.pointer none, I st1])[1]? = some (I st1) from rfl, optK_some]
  rw [hes, put_put]
  let s : Ss := ⟨g.last + 1, g.caps &&& f.caps, w4.heap.size, ⟨w2.heap.size + 1, w2.heap.size, 0, []⟩, ⟨w3.heap.size, sizeOfWin g.size, sizeOfWin g.size⟩, some (c.blk, c.n), 0⟩
  have hfree : ∀ b, w2.heap.size ≤ b → g.own b = .none := fun b hb => hr2.fresh hb
  have hlc : c.blk < w2.heap.size := lt_of_hp (hr2.conn c hc).1
  have ht5 : TbRep w5 s.t := ht4.ext x5 (by simp; omega) (by simp; omega)
  have hw5 : WnRep w5 s.win := hwn.ext x5 (by simp; omega)
  have hr6 : HubRep (put w5 g.ml o2) (g.newS c s) := by
    refine HubRep.addS (s := s) hr5 hb5 ht5 hw5 (hfree _ (by simp only [s]; omega)) (hfree _ (by simp only [s]; omega)) (hfree _ (by simp only [s]; omega)) (hfree _ (by simp only [s]; omega))
      (by simp only [s]; omega) (by simp only [s]; omega) (by simp only [s]; omega) (by simp only [s]; omega) (by simp only [s]; omega) hnt ho2
  have x6 : Ext [g.blk, c.blk, g.ml] w (put w5 g.ml o2) := by
    have y := ((((x1.mono (T := [g.blk, c.blk, g.ml]) (fun b hb => by simp at hb)).trans x2 (fun b hb => by simp at hb; exact .inl (by simp [hb]))).trans x3 (fun b hb => by simp at hb)).trans x4 (fun b hb => by simp at hb)).trans x5 (fun b hb => by simp at hb; exact .inl (by simp [hb]))
    exact y.put (.inl (by simp))
  have hwf := newS_wf hr hw hc hcs (s := s) (by omega) rfl rfl (by simp only [s]; have : g.caps &&& f.caps ≤ g.caps := Nat.and_le_left; omega) (by simp [s])
  have hv6 : hp (put w5 g.ml o2) (w.heap.size + 1) = some (.cells #[.slice none 0 0, .slice none 0 0, .bool false, .int .u64 0] 45 (0, 0)) := by
    have hm5 : g.own g.ml = .hub 2 := hr.o2
    have hlm : g.ml < w.heap.size := hr.lt _ (by rw [hm5]; simp)
    have hlc : c.blk < w.heap.size := hr.lt _ (by rw [(hr.conn c hc).2]; simp)
    rw [hp_put, if_neg (by omega)]
    exact x5.at (x4.at (x3.at hv2 (by simp)) (by simp)) (by simp; omega)
  have hs6 : (put w5 g.ml o2).heap.size = w4.heap.size + 1 := by simp [hs5]
  have hS6 := hr6.sess s (List.mem_append_right _ (by simp))
  generalize hW6 : put w5 g.ml o2 = w6 at *
  have hat6 : hp w6 w4.heap.size = some (.cells #[.int .u64 ((g.last : Int) + 1), .int .u32 ((g.caps &&& f.caps : Nat) : Int), pt (w2.heap.size + 1) 0, pt w3.heap.size 0, pt c.blk 0, .int .u32 0] 94 (0, 0)) := hS6.at_
  simp [hat6]
  refine credit_Limit_spec (c := s.win) (hS6.win.ext ((Ext.refl [] _).drw) (by simp)) ?_
  simp [hat6]
  rw [bs_msg1 (mWel_ok _ _ _).size]
  have n1 : w.heap.size + 1 ≠ w6.heap.size := by omega
  have n2 : w.heap.size + 1 < w6.heap.size + 1 := by omega
  simp [n1, n2, hv6]
  have hown : (g.newS c s).own (w.heap.size + 1) = .none := by
    simp only [Hb.newS, ownS, s]
    rw [if_neg (by omega), if_neg (by omega), if_neg (by omega), if_neg (by omega)]
    exact hr.fresh (by omega)
  have x7 : Ext [g.blk, c.blk, g.ml] w (put ((drw w6).alloc (.cells (mWel ((g.caps &&& f.caps : Nat) : Int) ((g.last : Int) + 1) (s.win.limit : Int)) 37)) (w.heap.size + 1) (.cells #[.slice (some ⟨w6.heap.size, 0, none⟩) 1 1, .slice none 0 0, .bool false, .int .u64 0] 45 (0, 0))) :=
    ((x6.drw).alloc).put (.inr (by omega))
  have hmod : g.abs.hello c.n now f = ({ g.abs with last := g.abs.last + 1, sess := g.abs.sess ++ [g.abs.newS c.n f] }, ⟨[mWel (g.abs.caps &&& f.caps : Nat) (g.abs.last + 1 : Nat) (sizeOfWin g.abs.size)], [], false, 0⟩) := by
    unfold MH.hello
    rw [if_neg (show ¬ g.abs.caps &&& f.caps = 0 from h0), if_neg (by rw [hsl]; exact h8)]
  rw [hmod] at h
  refine h _ (g.newS c s) _ ⟨x7.os, x7.tape, x7.output, x7.size, fun b hb ho => x7.same b hb ?_, fun b hb ho => ?_, ((hr6.drw).alloc _).putFree hown, hwf, rfl⟩ ?_ ⟨⟨_, _, rfl, .inr ⟨w6.heap.size, by omega, ?_, rfl, ?_⟩, .inl ⟨rfl, rfl⟩⟩, ?_⟩
  · simp only [List.mem_cons, List.not_mem_nil, or_false, not_or]
    exact ⟨own_ne ho hr.o0 (by simp), own_ne ho (hr.conn c hc).2 (by simp), own_ne ho hr.o2 (by simp)⟩
  · simp only [Hb.newS, ownS, s]
    rw [if_neg (by omega), if_neg (by omega), if_neg (by omega), if_neg (by omega)]
    exact ho
  · rw [newS_abs]
    rfl
  · exact hr6.fresh (Nat.le_refl _)
  · simp [flat, Ne.symm n1]
    rfl
  · intro x hx
    simp at hx
    subst hx
    exact mWel_ok _ _ _
end Go.Proofs.Ytpdcllhmbjnooaa
