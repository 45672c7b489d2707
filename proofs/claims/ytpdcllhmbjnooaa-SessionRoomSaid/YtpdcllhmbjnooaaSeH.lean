/- Sessions: a session goes on. -/
import Derived.Test.YtpdcllhmbjnooaaSeG
namespace Go.Proofs.Ytpdcllhmbjnooaa
open Go.Dc
set_option maxRecDepth 10000

theorem mem_setS {g : Hb} {s s' : Ss} (hs : s ∈ g.sess) : s' ∈ (g.setS s.blk fun _ => s').sess := by
  unfold Hb.setS
  simp only [List.mem_map]
  exact ⟨s, hs, if_pos rfl⟩
theorem mem_setS' {g : Hb} {s s' x : Ss} (h : x ∈ (g.setS s.blk fun _ => s').sess) : x = s' ∨ (x ∈ g.sess ∧ x.blk ≠ s.blk) := by
  unfold Hb.setS at h
  simp only [List.mem_map] at h
  obtain ⟨y, hy, rfl⟩ := h
  by_cases hb : y.blk = s.blk
  · rw [if_pos hb]; exact .inl rfl
  · rw [if_neg hb]; exact .inr ⟨hy, hb⟩
theorem mem_setS'' {g : Hb} {s s' x : Ss} (h : x ∈ g.sess) (hb : x.blk ≠ s.blk) : x ∈ (g.setS s.blk fun _ => s').sess := by
  unfold Hb.setS
  simp only [List.mem_map]
  exact ⟨x, h, if_neg hb⟩

theorem setS_tok {w : World} {g : Hb} (hr : HubRep w g) {s s' : Ss} (hs : s ∈ g.sess) (ht : s'.tok = s.tok) : (g.setS s.blk fun _ => s').sess.map (·.tok) = g.sess.map (·.tok) := by
  unfold Hb.setS
  rw [List.map_map]
  apply List.map_congr_left
  intro x hx
  simp only [Function.comp_apply]
  by_cases hb : x.blk = s.blk
  · rw [if_pos hb, ht, hr.sessInj hx hs hb]
  · rw [if_neg hb]

theorem setS_wf {w : World} {g : Hb} (hr : HubRep w g) (hw : g.Wf) {s s' : Ss} (hs : s ∈ g.sess) (ht : s'.tok = s.tok) (hb : s'.blk = s.blk) (hc : s'.conn = s.conn) (h1 : s'.caps < 4294967296) (h2 : s'.since < 4294967296) :
    (g.setS s.blk fun _ => s').Wf := by
  refine ⟨fun c hc' sb hsb => ?_, fun x hx cb n hn => ?_, hw.lc, by unfold Hb.setS; simp only [List.length_map]; exact hw.ls, fun x hx => ?_, by rw [setS_tok hr hs ht]; exact hw.asc, hw.caps, hw.away, fun x hx => ?_, fun x hx => ?_⟩
  · obtain ⟨s0, h3, h4, h5⟩ := hw.cs c hc' sb hsb
    by_cases hbb : s0.blk = s.blk
    · have := hr.sessInj h3 hs hbb
      subst this
      exact ⟨s', mem_setS hs, hb.trans h4, hc.trans h5⟩
    · exact ⟨s0, mem_setS'' h3 hbb, h4, h5⟩
  · rcases mem_setS' hx with rfl | ⟨h3, h4⟩
    · obtain ⟨c, h5, h6, h7, h8⟩ := hw.sc s hs cb n (hc ▸ hn)
      exact ⟨c, h5, h6, h7, by rw [h8, hb]⟩
    · exact hw.sc x h3 cb n hn
  · rcases mem_setS' hx with rfl | ⟨h3, h4⟩
    · rw [ht]; exact hw.tok s hs
    · exact hw.tok x h3
  · rcases mem_setS' hx with rfl | ⟨h3, h4⟩
    · exact h1
    · exact hw.scaps x h3
  · rcases mem_setS' hx with rfl | ⟨h3, h4⟩
    · exact h2
    · exact hw.since x h3

theorem mem_setC {g : Hb} {b : Nat} {x : Option Nat} {c : Cn} : c ∈ (g.setC b x).conns ↔ ∃ c0 ∈ g.conns, (if c0.blk = b then { c0 with sess := x } else c0) = c := by
  unfold Hb.setC
  simp only [List.mem_map]

/-- A session without a connection and a connection without a session. -/
theorem join_wf {w : World} {g : Hb} (hr : HubRep w g) (hw : g.Wf) {s s' : Ss} {c : Cn} (hs : s ∈ g.sess) (hc : c ∈ g.conns) (hcs : c.sess = none) (hsn : s.conn = none) (ht : s'.tok = s.tok) (hb : s'.blk = s.blk)
    (hsc : s'.conn = some (c.blk, c.n)) (h1 : s'.caps < 4294967296) (h2 : s'.since < 4294967296) : ((g.setS s.blk fun _ => s').setC c.blk (some s.blk)).Wf := by
  refine ⟨fun c' hc' sb hsb => ?_, fun x hx cb n hn => ?_, by unfold Hb.setC; simp only [List.length_map]; exact hw.lc, by unfold Hb.setC Hb.setS; simp only [List.length_map]; exact hw.ls, fun x hx => ?_,
    by show ((g.setS s.blk fun _ => s').sess.map (·.tok)).Pairwise (· < ·); rw [setS_tok hr hs ht]; exact hw.asc, hw.caps, hw.away, fun x hx => ?_, fun x hx => ?_⟩
  · obtain ⟨c0, h0, rfl⟩ := mem_setC.1 hc'
    have h0' : c0 ∈ g.conns := h0
    by_cases hbb : c0.blk = c.blk
    · have := hr.connInj h0' hc hbb
      subst this
      simp only [if_true] at hsb ⊢
      injection hsb with hsb
      exact ⟨s', mem_setS hs, by rw [hb, hsb], hsc⟩
    · simp only [if_neg hbb] at hsb ⊢
      obtain ⟨s0, h3, h4, h5⟩ := hw.cs c0 h0' sb hsb
      refine ⟨s0, mem_setS'' h3 fun e => ?_, h4, h5⟩
      rw [hr.sessInj h3 hs e, hsn] at h5
      cases h5
  · have hx' : x ∈ (g.setS s.blk fun _ => s').sess := hx
    rcases mem_setS' hx' with rfl | ⟨h3, h4⟩
    · rw [hsc] at hn
      injection hn with hn
      injection hn with h5 h6
      exact ⟨{ c with sess := some s.blk }, mem_setC.2 ⟨c, hc, by rw [if_pos rfl]⟩, h5, h6, by rw [hb]⟩
    · obtain ⟨c0, h5, h6, h7, h8⟩ := hw.sc x h3 cb n hn
      refine ⟨c0, mem_setC.2 ⟨c0, h5, if_neg fun e => ?_⟩, h6, h7, h8⟩
      rw [hr.connInj h5 hc e, hcs] at h8
      cases h8
  · have hx' : x ∈ (g.setS s.blk fun _ => s').sess := hx
    rcases mem_setS' hx' with rfl | ⟨h3, h4⟩
    · rw [ht]; exact hw.tok s hs
    · exact hw.tok x h3
  · have hx' : x ∈ (g.setS s.blk fun _ => s').sess := hx
    rcases mem_setS' hx' with rfl | ⟨h3, h4⟩
    · exact h1
    · exact hw.scaps x h3
  · have hx' : x ∈ (g.setS s.blk fun _ => s').sess := hx
    rcases mem_setS' hx' with rfl | ⟨h3, h4⟩
    · exact h2
    · exact hw.since x h3

def MH.put (m : MH) (s' : MS) : MH := { m with sess := m.sess.map fun s => if s.tok = s'.tok then s' else s }

theorem setS_abs {w : World} {g : Hb} (hr : HubRep w g) {s s' : Ss} (hs : s ∈ g.sess) (ht : s'.tok = s.tok) : (g.setS s.blk fun _ => s').abs = g.abs.put s'.abs := by
  unfold Hb.abs MH.put Hb.setS
  simp only [List.map_map]
  congr 1
  apply List.map_congr_left
  intro x hx
  simp only [Function.comp_apply]
  by_cases hb : x.blk = s.blk
  · have := hr.sessInj hx hs hb
    subst this
    rw [if_pos rfl, if_pos (show x.abs.tok = s'.abs.tok from ht.symm)]
  · rw [if_neg hb, if_neg (show ¬ x.abs.tok = s'.abs.tok from fun e => hb (by rw [nodup_inj hr.ndS hx hs (Eq.trans e ht)]))]

theorem setC_abs {g : Hb} {b : Nat} {x : Option Nat} : (g.setC b x).abs = g.abs := by
  unfold Hb.abs Hb.setC
  simp only [List.map_map]
  congr 1
  apply List.map_congr_left
  intro c _
  simp only [Function.comp_apply]
  split <;> rfl

/-! ### What a request needs -/

def MS.lacks (s : MS) (kind : Nat) : Bool :=
  if 20 ≤ kind ∧ kind ≤ 23 then s.caps &&& 1 = 0 else if 17 ≤ kind ∧ kind ≤ 19 then s.caps &&& 2 = 0 else false

theorem lacks_spec {w : World} {own : Nat → Tag} {s : Ss} {kind : Nat} {Q : Cont} (hs : SsRep w own s) (hc : s.caps < 4294967296) (h : Q (.bool (s.abs.lacks kind)) w) : Ret pg n_session_session_lacks #[pt s.blk 0, .int .u8 kind] Q w := by
  apply session_session_lacks_ok
  unfold session_session_lacks session_session_lacks_j0
  have hat := hs.at_
  unfold Ss.cells at hat
  unfold MS.lacks at h
  have hcap : s.abs.caps = s.caps := rfl
  rw [hcap] at h
  have e1 := andI_u32 s.caps 1 hc (by decide)
  have e2 := andI_u32 s.caps 2 hc (by decide)
  have key1 : 20 ≤ kind ∧ kind ≤ 23 → session_session_lacks_j3 Q (pt s.blk 0) (.int .u8 kind) (.bool true) w := by
    intro hk
    unfold session_session_lacks_j3
    rw [if_pos hk] at h
    simp [hat]
    have e1' : andI .u32 (s.caps : Int) 1 = ((s.caps &&& 1 : Nat) : Int) := e1
    rw [e1']
    rw [show decide (((s.caps &&& 1 : Nat) : Int) = 0) = decide (s.caps &&& 1 = 0) from by congr 1; apply propext; omega]
    exact h
  have key2 : 17 ≤ kind ∧ kind ≤ 19 → session_session_lacks_j4 Q (pt s.blk 0) (.bool true) w := by
    intro hk
    unfold session_session_lacks_j4
    rw [if_neg (by omega), if_pos hk] at h
    simp [hat]
    have e2' : andI .u32 (s.caps : Int) 2 = ((s.caps &&& 2 : Nat) : Int) := e2
    rw [e2']
    rw [show decide (((s.caps &&& 2 : Nat) : Int) = 0) = decide (s.caps &&& 2 = 0) from by congr 1; apply propext; omega]
    exact h
  have n1 : session_session_lacks_j1 Q w ↔ Q (.bool false) w := by unfold session_session_lacks_j1; exact Iff.rfl
  have n4 : ∀ v, v = false → (session_session_lacks_j4 Q (pt s.blk 0) (.bool v) w ↔ Q (.bool false) w) := by
    rintro v rfl
    unfold session_session_lacks_j4
    simp
    exact n1
  unfold session_session_lacks_j2
  simp
  by_cases h20 : kind = 20
  · subst h20; simpa using key1 (by decide)
  rw [ifB_neg (by simp; omega)]
  simp
  by_cases h21 : kind = 21
  · subst h21; simpa using key1 (by decide)
  rw [ifB_neg (by simp; omega)]
  simp
  by_cases h22 : kind = 22
  · subst h22; simpa using key1 (by decide)
  rw [ifB_neg (by simp; omega)]
  simp
  by_cases h23 : kind = 23
  · subst h23; simpa using key1 (by decide)
  rw [show decide ((kind : Int) = 23) = false from by simp; omega]
  unfold session_session_lacks_j3
  simp
  unfold session_session_lacks_c0
  simp
  by_cases h17 : kind = 17
  · subst h17; simpa using key2 (by decide)
  rw [ifB_neg (by simp; omega)]
  simp
  by_cases h18 : kind = 18
  · subst h18; simpa using key2 (by decide)
  rw [ifB_neg (by simp; omega)]
  simp
  by_cases h19 : kind = 19
  · subst h19; simpa using key2 (by decide)
  rw [n4 _ (by simp; omega)]
  rw [if_neg (by omega), if_neg (by omega)] at h
  exact h
end Go.Proofs.Ytpdcllhmbjnooaa
