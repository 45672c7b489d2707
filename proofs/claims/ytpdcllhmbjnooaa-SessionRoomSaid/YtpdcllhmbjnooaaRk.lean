/- Sessions, plainly: what stays true whatever is done with a hub. -/
import Derived.Test.YtpdcllhmbjnooaaRj
namespace Go.Proofs.Ytpdcllhmbjnooaa
open Go.Dc
set_option maxRecDepth 10000

theorem ok_of_wf {w : World} {g : Hb} (hr : HubRep w g) (hw : g.Wf) : g.abs.Ok := by
  have conn : ∀ s ∈ g.sess, ∀ n, s.abs.conn = some n → ∃ c ∈ g.conns, c.n = n ∧ c.sess = some s.blk := by
    intro s hs n hn
    have hn' : s.conn.map (·.2) = some n := hn
    cases hc : s.conn with
    | none => rw [hc] at hn'; cases hn'
    | some p =>
      obtain ⟨cb, k⟩ := p
      rw [hc] at hn'
      simp at hn'
      subst hn'
      obtain ⟨c, h1, _, h3, h4⟩ := hw.sc s hs cb _ hc
      exact ⟨c, h1, h3, h4⟩
  refine ⟨fun s hs n hn => ?_, fun s hs t ht n h1 h2 => ?_, hr.ndC, ?_, ?_, ?_⟩
  · obtain ⟨x, hx, rfl⟩ := List.mem_map.1 hs
    obtain ⟨c, h1, h2, _⟩ := conn x hx n hn
    exact List.mem_map.2 ⟨c, h1, h2⟩
  · obtain ⟨x, hx, rfl⟩ := List.mem_map.1 hs
    obtain ⟨y, hy, rfl⟩ := List.mem_map.1 ht
    obtain ⟨c, c1, c2, c3⟩ := conn x hx n h1
    obtain ⟨d, d1, d2, d3⟩ := conn y hy n h2
    have := nodup_inj hr.ndC c1 d1 (c2.trans d2.symm)
    rw [this, d3] at c3
    injection c3 with c3
    rw [hr.sessInj hx hy c3.symm]
  · have := hr.ndS
    unfold Hb.abs
    rw [List.map_map]
    exact this
  · unfold Hb.abs; simp; exact hw.lc
  · unfold Hb.abs; simp; exact hw.ls

/-- Numbers are small, and answers have no lists. -/
structure MH.Lim (m : MH) (k : Nat) : Prop where
  last : m.last ≤ k
  done : ∀ s ∈ m.sess, s.done ≤ k
  pl : ∀ s ∈ m.sess, ∀ x ∈ s.msgs, Plain x

theorem MH.Lim.mono {m : MH} {k l : Nat} (h : m.Lim k) (hk : k ≤ l) : m.Lim l := ⟨Nat.le_trans h.last hk, fun s hs => Nat.le_trans (h.done s hs) hk, h.pl⟩
theorem MH.Lim.put {m : MH} {k : Nat} {s : MS} (h : m.Lim k) (h1 : s.done ≤ k) (h2 : ∀ x ∈ s.msgs, Plain x) : (m.put s).Lim k := by
  have hm : ∀ t ∈ (m.put s).sess, t = s ∨ t ∈ m.sess := by
    intro t ht
    unfold MH.put at ht
    simp only [List.mem_map] at ht
    obtain ⟨x, hx, rfl⟩ := ht
    split
    · exact .inl rfl
    · exact .inr hx
  refine ⟨h.last, fun t ht => ?_, fun t ht => ?_⟩
  · rcases hm t ht with rfl | ht
    · exact h1
    · exact h.done t ht
  · rcases hm t ht with rfl | ht
    · exact h2
    · exact h.pl t ht
theorem MH.Lim.close {m : MH} {k : Nat} (h : m.Lim k) (n : Int) (now : Nat) : (m.close n now).Lim k := by
  unfold MH.close
  split
  · refine ⟨h.last, fun t ht => ?_, fun t ht => ?_⟩
    · simp only [List.mem_map] at ht
      obtain ⟨x, hx, rfl⟩ := ht
      have := h.done x hx
      split <;> exact this
    · simp only [List.mem_map] at ht
      obtain ⟨x, hx, rfl⟩ := ht
      have := h.pl x hx
      split <;> exact this
  · exact h
theorem MH.Lim.open_ {m : MH} {k : Nat} (h : m.Lim k) (n : Int) : (m.open_ n).Lim k := by
  unfold MH.open_
  split
  · exact ⟨h.last, h.done, h.pl⟩
  · exact h
theorem MH.Lim.tick {m : MH} {k : Nat} (h : m.Lim k) (now : Nat) : (m.tick now).Lim k :=
  ⟨h.last, fun s hs => h.done s (List.mem_filter.1 hs).1, fun s hs => h.pl s (List.mem_filter.1 hs).1⟩

theorem MS.ack_done (s : MS) (n : Nat) : (s.ack n).done = s.done ∧ ∀ x ∈ (s.ack n).msgs, x ∈ s.msgs := by
  unfold MS.ack
  split
  · exact ⟨rfl, fun _ h => h⟩
  · refine ⟨?_, fun x hx => List.mem_of_mem_drop hx⟩
    unfold MS.done at *
    simp only [List.length_drop]
    omega
theorem MS.keep_done (s : MS) (r : Nat) (x : Msg) : (s.keep r x).done ≤ s.done + 1 ∧ ∀ y ∈ (s.keep r x).msgs, y ∈ s.msgs ∨ y = x := by
  unfold MS.keep Tb.keep
  split
  · refine ⟨?_, fun y hy => ?_⟩
    · show s.acked + (s.msgs ++ [x]).length ≤ s.acked + s.msgs.length + 1
      simp
      omega
    · have : y ∈ s.msgs ++ [x] := hy
      simpa using this
  · exact ⟨Nat.le_succ _, fun y hy => .inl hy⟩

theorem find_on {m : MH} {n : Int} {s : MS} (h : m.on n = some s) : s ∈ m.sess := List.mem_of_find?_eq_some h
theorem find_tok {m : MH} {t : Nat} {s : MS} (h : m.find t = some s) : s ∈ m.sess := List.mem_of_find?_eq_some h

theorem plain_KC (a b : Int) : Plain (mKC a b) := ⟨_, _, _, _, _, _, _, pl_KC a b⟩
theorem plain_KN (a b : Int) : Plain (mKN a b) := ⟨_, _, _, _, _, _, _, pl_KN a b⟩
theorem plain_Wel (a b c : Int) : Plain (mWel a b c) := ⟨_, _, _, _, _, _, _, pl_Wel a b c⟩
theorem plain_Ans (a b : Int) : Plain (mAns a b) := ⟨_, _, _, _, _, _, _, pl_Ans a b⟩
theorem plain_z : Plain zMsg := ⟨0, 0, 0, 0, 0, 0, 0, rfl⟩

theorem ask_plain {s : MS} {r : Nat} (h : ∀ x ∈ s.msgs, Plain x) : Plain (s.ask r).1 := by
  unfold MS.ask Tb.ask
  split
  · exact plain_z
  split
  · cases hx : s.tb.msgs[r - (s.tb.acked + 1)]? with
    | none => exact plain_z
    | some a => exact h a (List.mem_of_getElem? hx)
  split
  · exact plain_z
  · exact plain_z

/-- What is told of a turn: its messages have no lists, and there are few. -/
def MT.Ok (t : MT) : Prop := (∀ x ∈ t.out, Plain x) ∧ t.out.length ≤ 2 ∧ t.shut.length ≤ 1
theorem shutT_ok (n : Int) (a b : Nat) : (shutT n a b).Ok := ⟨by intro x hx; simp [shutT] at hx; rw [hx]; exact plain_KC _ _, by simp [shutT], by simp [shutT]⟩
theorem one_ok {a : Msg} (h : Plain a) : (⟨[a], [], false, 0⟩ : MT).Ok := ⟨by intro x hx; simp at hx; rw [hx]; exact h, by simp, by simp⟩
theorem none_ok : MT.none.Ok := ⟨by simp [MT.none], by simp [MT.none], by simp [MT.none]⟩

theorem in_lim {m : MH} {n : Int} {now k : Nat} {f : MF} (h : m.Lim k) : (m.in_ n now f).1.Lim (k + 1) ∧ (m.in_ n now f).2.1.Ok := by
  have hk := h.mono (Nat.le_succ k)
  unfold MH.in_
  split
  · exact ⟨hk, none_ok⟩
  split
  · exact ⟨hk.close n now, ⟨by simp, by simp, by simp⟩⟩
  split
  · split
    · unfold MH.hello
      split
      · exact ⟨hk.close n now, shutT_ok _ _ _⟩
      split
      · exact ⟨hk.close n now, shutT_ok _ _ _⟩
      · refine ⟨⟨by have := h.last; simp only; omega, fun s hs => ?_, fun s hs => ?_⟩, one_ok (plain_Wel _ _ _)⟩
        · rcases List.mem_append.1 hs with hs | hs
          · exact hk.done s hs
          · simp at hs; rw [hs]; simp [MH.newS, MS.done]
        · rcases List.mem_append.1 hs with hs | hs
          · exact hk.pl s hs
          · simp at hs; rw [hs]; simp [MH.newS]
    split
    · unfold MH.resume
      split
      · exact ⟨hk.close n now, shutT_ok _ _ _⟩
      · rename_i s hf
        have hs := find_tok hf
        split
        · exact ⟨hk.close n now, shutT_ok _ _ _⟩
        · have h1 := s.ack_done f.n
          have h2 : ∀ x ∈ (s.ack f.n).msgs, Plain x := fun x hx => h.pl s hs x (h1.2 x hx)
          have h3 : (s.ack f.n).done ≤ k + 1 := by rw [h1.1]; exact hk.done s hs
          cases hc : s.conn with
          | none =>
            simp only
            exact ⟨(hk.put h3 h2).put h3 h2, ⟨by intro x hx; simp at hx; rcases hx with rfl | rfl <;> exact plain_KN _ _, by simp, by simp⟩⟩
          | some c =>
            simp only
            exact ⟨((hk.put h3 h2).close c now).put h3 h2, ⟨by intro x hx; simp at hx; rcases hx with rfl | rfl <;> exact plain_KN _ _, by simp, by simp⟩⟩
    · exact ⟨hk.close n now, shutT_ok _ _ _⟩
  · rename_i s hf
    have hs := find_on hf
    split
    · exact ⟨hk, one_ok (plain_KN _ _)⟩
    split
    · exact ⟨hk, none_ok⟩
    split
    · have h1 := s.ack_done f.n
      have h2 : ∀ x ∈ (s.ack f.n).msgs, Plain x := fun x hx => h.pl s hs x (h1.2 x hx)
      have h3 : (s.ack f.n).done ≤ k + 1 := by rw [h1.1]; exact hk.done s hs
      refine ⟨hk.put h3 h2, ?_⟩
      simp only
      split
      · exact one_ok (plain_KN _ _)
      · exact none_ok
    split
    · unfold MH.request
      split
      · exact ⟨hk.close n now, shutT_ok _ _ _⟩
      split
      · exact ⟨hk, one_ok (ask_plain (h.pl s hs))⟩
      split
      · exact ⟨hk, one_ok (plain_Ans _ _)⟩
      split
      · exact ⟨hk.close n now, shutT_ok _ _ _⟩
      split
      · have h1 := s.keep_done f.req (mAns f.req 181)
        refine ⟨hk.put (by have := h.done s hs; omega) fun x hx => ?_, one_ok (plain_Ans _ _)⟩
        rcases h1.2 x hx with hx | rfl
        · exact h.pl s hs x hx
        · exact plain_Ans _ _
      · exact ⟨hk, ⟨by simp, by simp, by simp⟩⟩
    · exact ⟨hk.close n now, shutT_ok _ _ _⟩

theorem told_lim {m : MH} {tok req k : Nat} {x : Msg} (h : m.Lim k) (hx : Plain x) : (m.told tok req x).1.Lim (k + 1) := by
  have hk := h.mono (Nat.le_succ k)
  unfold MH.told
  split
  · exact hk
  · rename_i s hf
    have hs := find_tok hf
    have h1 := s.keep_done req x
    refine hk.put (by have := h.done s hs; omega) fun y hy => ?_
    rcases h1.2 y hy with hy | rfl
    · exact h.pl s hs y hy
    · exact hx
end Go.Proofs.Ytpdcllhmbjnooaa
