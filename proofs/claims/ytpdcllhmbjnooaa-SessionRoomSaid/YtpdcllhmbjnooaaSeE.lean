/- Sessions: the hub's smaller calls. -/
import Derived.Test.YtpdcllhmbjnooaaSeD
namespace Go.Proofs.Ytpdcllhmbjnooaa
open Go.Dc
set_option maxRecDepth 10000

theorem HubRep.addC {w : World} {g : Hb} (h : HubRep w g) {n : Int} {nb : Nat} (hnb : hp w nb = some (.cells #[.int .i64 n, .pointer none] 88 (0, 0))) (ho : g.own nb = .none) (hn : ∀ c ∈ g.conns, c.n ≠ n) {o : Obj}
    (hm : MapIs (fun n : Int => Value.int .i64 n) (some o) (setM (g.conns.map fun c => (c.n, pt c.blk 0)) n (pt nb 0))) :
    HubRep (put w g.mc o) { g with conns := g.conns ++ [⟨n, nb, none⟩], own := fun b => if b = nb then .conn n else g.own b } := by
  rw [setM_new (fun c : Cn => c.n) _ _ _ _ hn] at hm
  have nn : ∀ b, g.own b ≠ .none → b ≠ nb := fun b hb e => hb (by rw [e]; exact ho)
  have ow : ∀ b, g.own b ≠ .none → (if b = nb then Tag.conn n else g.own b) = g.own b := fun b hb => if_neg (nn b hb)
  have nb1 : ∀ b t, g.own b = t → t ≠ .hub 1 → b ≠ g.mc := fun b t hb ht => own_ne hb h.o1 ht
  have key : ∀ b t, g.own b = t → t ≠ .hub 1 → hp (put w g.mc o) b = hp w b := fun b t hb ht => by rw [hp_put, if_neg (nb1 b t hb ht)]
  have e : Ext [g.mc] w (put w g.mc o) := Ext.put (Ext.refl _ _) (.inl (by simp))
  refine ⟨by rw [key _ _ h.o0 (by simp)]; exact h.at_, by rw [hp_put, if_pos rfl, if_pos (map_lt h.mapC)]; simpa using hm, by rw [key _ _ h.o2 (by simp)]; exact h.mapS,
    fun c hc => ?_, fun s hs => ?_, ?_, ?_, ?_, fun b hb => ?_, ?_, h.ndS⟩
  · rcases List.mem_append.1 hc with hc | hc
    · obtain ⟨h1, h2⟩ := h.conn c hc
      exact ⟨by rw [key _ _ h2 (by simp)]; exact h1, by show (if c.blk = nb then Tag.conn n else g.own c.blk) = _; rw [ow _ (by rw [h2]; simp)]; exact h2⟩
    · simp at hc
      subst hc
      exact ⟨by rw [key _ _ ho (by simp)]; exact hnb, if_pos rfl⟩
  · have hs' := h.sess s hs
    exact ⟨by rw [key _ _ hs'.o0 (by simp)]; exact hs'.at_, hs'.tb.ext e (by simp; exact nb1 _ _ hs'.o1 (by simp)) (by simp; exact nb1 _ _ hs'.o2 (by simp)), hs'.win.ext e (by simp; exact nb1 _ _ hs'.o3 (by simp)),
      (ow _ (by rw [hs'.o0]; simp)).trans hs'.o0, (ow _ (by rw [hs'.o1]; simp)).trans hs'.o1, (ow _ (by rw [hs'.o2]; simp)).trans hs'.o2, (ow _ (by rw [hs'.o3]; simp)).trans hs'.o3⟩
  · exact (ow _ (by rw [h.o0]; simp)).trans h.o0
  · exact (ow _ (by rw [h.o1]; simp)).trans h.o1
  · exact (ow _ (by rw [h.o2]; simp)).trans h.o2
  · rw [size_put]
    by_cases hbn : b = nb
    · rw [hbn]; exact lt_of_hp hnb
    · simp only [if_neg hbn] at hb
      exact h.lt b hb
  · simp only [List.map_append, List.map_cons, List.map_nil]
    rw [List.nodup_append]
    refine ⟨h.ndC, by simp, fun x hx y hy => ?_⟩
    simp at hy
    subst hy
    obtain ⟨c, hc, rfl⟩ := List.mem_map.1 hx
    exact hn c hc

def MH.openE (m : MH) (n : Int) : Nat := if n ∈ m.conns then 3 else if 8 ≤ m.conns.length then 4 else 0
def MH.open_ (m : MH) (n : Int) : MH := if m.openE n = 0 then { m with conns := m.conns ++ [n] } else m

theorem Open_spec {w : World} {g : Hb} {n : Int} {Q : Cont} (hr : HubRep w g) (hw : g.Wf)
    (h : ∀ w' g', Step w g w' g' → g'.abs = g.abs.open_ n → Q (I (g.abs.openE n)) w') : Ret pg n_session_Hub_Open #[pt g.blk 0, .int .i64 n] Q w := by
  apply session_Hub_Open_ok
  unfold session_Hub_Open
  simp [hr.at_]
  rw [lk_map_int_p_session_conn hr.mapC, getC]
  cases hf : g.findC n with
  | some c =>
    have he : g.abs.openE n = 3 := by unfold MH.openE; rw [if_pos (mem_conns.2 ⟨c, hf⟩)]
    simp
    have := h w g (Step.refl hr hw) (by unfold MH.open_; rw [he, if_neg (by decide)])
    rwa [he] at this
  | none =>
    have hnm : n ∉ g.abs.conns := by rw [mem_conns, hf]; simp
    simp [hr.at_]
    rw [len_map_int_p_session_conn hr.mapC]
    simp
    have hlen : g.abs.conns.length = g.conns.length := by unfold Hb.abs; simp
    by_cases h8 : 8 ≤ g.conns.length
    · rw [ifB_pos (by simp; omega)]
      have he : g.abs.openE n = 4 := by unfold MH.openE; rw [if_neg hnm, if_pos (by rw [hlen]; exact h8)]
      have := h w g (Step.refl hr hw) (by unfold MH.open_; rw [he, if_neg (by decide)])
      rwa [he] at this
    rw [ifB_neg (by simp; omega)]
    have he : g.abs.openE n = 0 := by unfold MH.openE; rw [if_neg hnm, if_neg (by rw [hlen]; exact h8)]
    simp [hr.at_]
    have hr1 : HubRep (w.alloc (.cells #[.int .i64 n, .pointer none] 88)) g := hr.alloc _
    obtain ⟨o, ho, hmu⟩ := mu_map_int_p_session_conn hr1.mapC n (pt w.heap.size 0)
    rw [hmu]
    have hr2 := hr1.addC (nb := w.heap.size) (by simp) (hr.fresh (Nat.le_refl _)) (find_none hf) ho
    have e : Ext [g.mc] w (put (w.alloc (.cells #[.int .i64 n, .pointer none] 88)) g.mc o) := ((Ext.refl _ _).alloc).put (.inl (by simp))
    have hwf : Hb.Wf { g with conns := g.conns ++ [⟨n, w.heap.size, none⟩], own := fun b => if b = w.heap.size then .conn n else g.own b } := by
      refine ⟨fun c hc sb hsb => ?_, fun s hs cb m hcb => ?_, by simp; omega, hw.ls, hw.tok, hw.asc, hw.caps, hw.away, hw.scaps, hw.since⟩
      · rcases List.mem_append.1 hc with hc | hc
        · exact hw.cs c hc sb hsb
        · simp at hc; subst hc; cases hsb
      · obtain ⟨c, h1, h2⟩ := hw.sc s hs cb m hcb
        exact ⟨c, List.mem_append_left _ h1, h2⟩
    have := h _ _ ⟨e.os, e.tape, e.output, e.size, fun b hb hn => e.same b hb (by simp; exact own_ne hn hr.o1 (by simp)), fun b hb hn => by simp only; rw [if_neg (by omega)]; exact hn, hr2, hwf, rfl⟩
      (by unfold MH.open_; rw [he, if_pos rfl]; unfold Hb.abs; simp)
    rwa [he] at this

/-! ### What is told -/

theorem Conns_spec {w : World} {g : Hb} {Q : Cont} (hr : HubRep w g) (h : Q (I g.abs.conns.length) w) : Ret pg n_session_Hub_Conns #[pt g.blk 0] Q w := by
  apply session_Hub_Conns_ok
  unfold session_Hub_Conns
  simp [hr.at_]
  rw [len_map_int_p_session_conn hr.mapC]
  simpa [Hb.abs] using h
theorem Sessions_spec {w : World} {g : Hb} {Q : Cont} (hr : HubRep w g) (h : Q (I g.abs.sess.length) w) : Ret pg n_session_Hub_Sessions #[pt g.blk 0] Q w := by
  apply session_Hub_Sessions_ok
  unfold session_Hub_Sessions
  simp [hr.at_]
  rw [len_map_uint64_p_session_session hr.mapS]
  simpa [Hb.abs] using h

def MH.find (m : MH) (tok : Nat) : Option MS := m.sess.find? (fun s => s.tok == tok)
theorem find_abs (g : Hb) (tok : Nat) : g.abs.find tok = (g.findS tok).map Ss.abs := by
  unfold MH.find Hb.abs Hb.findS
  rw [List.find?_map]
  rfl
/-- A session's connection: 0 and false if it has none. -/
def MH.conn (m : MH) (tok : Nat) : Int × Bool :=
  match m.find tok with
  | some s => match s.conn with
    | some n => (n, true)
    | none => (0, false)
  | none => (0, false)

theorem Conn_spec {w : World} {g : Hb} {tok : Nat} {Q : Cont} (hr : HubRep w g) (hw : g.Wf) (h : Q (.tuple #[.int .i64 (g.abs.conn tok).1, .bool (g.abs.conn tok).2]) w) : Ret pg n_session_Hub_Conn #[pt g.blk 0, .int .u64 tok] Q w := by
  apply session_Hub_Conn_ok
  unfold session_Hub_Conn session_Hub_Conn_j0
  simp [hr.at_]
  rw [lk_map_uint64_p_session_session hr.mapS, getS]
  unfold session_Hub_Conn_j2
  cases hf : g.findS tok with
  | none =>
    have : g.abs.conn tok = (0, false) := by unfold MH.conn; rw [find_abs, hf]; rfl
    rw [this] at h
    simp
    unfold session_Hub_Conn_j3 session_Hub_Conn_j1
    simpa using h
  | some s =>
    obtain ⟨hs, rfl⟩ := findS_mem hf
    have hat := (hr.sess s hs).at_
    unfold Ss.cells at hat
    cases hc : s.conn with
    | none =>
      have : g.abs.conn s.tok = (0, false) := by unfold MH.conn; rw [find_abs, hf]; simp [Ss.abs, hc]
      rw [this] at h
      rw [hc] at hat
      simp [hat, ptO]
      unfold session_Hub_Conn_j3 session_Hub_Conn_j1
      simpa using h
    | some p =>
      obtain ⟨cb, n⟩ := p
      have : g.abs.conn s.tok = (n, true) := by unfold MH.conn; rw [find_abs, hf]; simp [Ss.abs, hc]
      rw [this] at h
      rw [hc] at hat
      obtain ⟨c, h1, h2, h3, h4⟩ := hw.sc s hs cb n hc
      have hcat := (hr.conn c h1).1
      rw [h2, h3] at hcat
      simp [hat, ptO]
      unfold session_Hub_Conn_j3
      simp [hat, hcat, ptO]
      exact h

theorem New_spec {caps away : Nat} {size : Int} {w : World} {Q : Cont} (hc : caps < 4294967296) (ha : away < 4294967296)
    (h : ∀ w' g, Ext [] w w' → HubRep w' g → g.Wf → (∀ b, b < w.heap.size → g.own b = .none) → g.abs = ⟨caps, size, away, 0, [], []⟩ → Q (pt g.blk 0) w') : Ret pg n_session_New #[.int .u32 caps, .int .i64 size, .int .u32 away] Q w := by
  apply session_New_ok
  unfold session_New
  have e1 : ¬ w.heap.size = w.heap.size + 1 + 1 := by omega
  simp
  refine h _ ⟨w.heap.size + 1 + 1, w.heap.size, w.heap.size + 1, caps, size, away, 0, [], [], fun b => if b = w.heap.size + 1 + 1 then .hub 0 else if b = w.heap.size then .hub 1 else if b = w.heap.size + 1 then .hub 2 else .none⟩
    (((Ext.refl _ _).alloc).alloc).alloc ⟨by simp, by simp [e1]; exact MapIs.new _, by simp; exact MapIs.new _, by simp, by simp, by simp, by simp [e1], by simp, ?_, by simp, by simp⟩
    ⟨by simp, by simp, by simp, by simp, by simp, by simp, hc, ha, by simp, by simp⟩ ?_ rfl
  · intro b hb
    simp only at hb
    simp
    by_cases h1 : b = w.heap.size + 1 + 1
    · omega
    · rw [if_neg h1] at hb
      by_cases h2 : b = w.heap.size
      · omega
      · rw [if_neg h2] at hb
        by_cases h3 : b = w.heap.size + 1
        · omega
        · rw [if_neg h3] at hb; exact absurd rfl hb
  · intro b hb
    simp only
    rw [if_neg (by omega), if_neg (by omega), if_neg (by omega)]
end Go.Proofs.Ytpdcllhmbjnooaa
