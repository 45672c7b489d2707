/- Sessions: turns; a connection that is shut. -/
import Derived.Test.YtpdcllhmbjnooaaSeE
import Derived.Test.YtpdcllhmbjnooaaLk
namespace Go.Proofs.Ytpdcllhmbjnooaa
open Go.Dc
set_option maxRecDepth 10000

theorem MsgOk.set {m : Msg} (h : MsgOk m) (i : Nat) {v : Value} (hv : v.oneCell' = true) : MsgOk (m.setIfInBounds i v) :=
  ⟨by rw [Array.size_setIfInBounds]; exact h.size, fun x hx => by
    rcases Array.mem_or_eq_of_mem_setIfInBounds hx with hx | rfl
    · exact h.one x hx
    · exact hv⟩

def mKC (k c : Int) : Msg := (zMsg.setIfInBounds 0 (.int .u8 k)).setIfInBounds 4 (.int .u8 c)
def mKN (k n : Int) : Msg := (zMsg.setIfInBounds 0 (.int .u8 k)).setIfInBounds 5 (.int .u32 n)
def mWel (caps tok n : Int) : Msg := (((zMsg.setIfInBounds 0 (.int .u8 2)).setIfInBounds 2 (.int .u32 caps)).setIfInBounds 3 (.int .u64 tok)).setIfInBounds 5 (.int .u32 n)
def mAns (req code : Int) : Msg := ((zMsg.setIfInBounds 0 (.int .u8 24)).setIfInBounds 1 (.int .u32 req)).setIfInBounds 4 (.int .u8 code)
theorem mKC_ok (k c : Int) : MsgOk (mKC k c) := (zMsg_ok.set _ rfl).set _ rfl
theorem mKN_ok (k c : Int) : MsgOk (mKN k c) := (zMsg_ok.set _ rfl).set _ rfl
theorem mWel_ok (a b c : Int) : MsgOk (mWel a b c) := (((zMsg_ok.set _ rfl).set _ rfl).set _ rfl).set _ rfl
theorem mAns_ok (a b : Int) : MsgOk (mAns a b) := ((zMsg_ok.set _ rfl).set _ rfl).set _ rfl
@[simp high] theorem bd_KC (a b : Int) (k : Cont) (w : World) : bd 37 #[(0, .int .u8 a), (4, .int .u8 b)] k w = k (.agg (mKC a b)) w := bd_api_Message_0_4 a b k w
@[simp high] theorem bdq_KC (a b : Int) (k : Value → Prop) (w : World) : bdq 37 #[(0, .int .u8 a), (4, .int .u8 b)] k w = k (.agg (mKC a b)) := bd_api_Message_0_4q a b k w
@[simp high] theorem bd_KN (a b : Int) (k : Cont) (w : World) : bd 37 #[(0, .int .u8 a), (5, .int .u32 b)] k w = k (.agg (mKN a b)) w := bd_api_Message_0_5 a b k w
@[simp high] theorem bdq_KN (a b : Int) (k : Value → Prop) (w : World) : bdq 37 #[(0, .int .u8 a), (5, .int .u32 b)] k w = k (.agg (mKN a b)) := bd_api_Message_0_5q a b k w
@[simp high] theorem bdq_Wel (a b c : Int) (k : Value → Prop) (w : World) : bdq 37 #[(0, .int .u8 2), (2, .int .u32 a), (3, .int .u64 b), (5, .int .u32 c)] k w = k (.agg (mWel a b c)) := bd_api_Message_0_2_3_5q 2 a b c k w
@[simp high] theorem bd_Ans (a b : Int) (k : Cont) (w : World) : bd 37 #[(0, .int .u8 24), (1, .int .u32 a), (4, .int .u8 b)] k w = k (.agg (mAns a b)) w := bd_api_Message_0_1_4 24 a b k w

theorem bs_msg1 {m : Msg} (hm : m.size = 28) (k : Cont) (w : World) : bs 42 1 #[(0, .agg m)] k w = natK (fun n => k (.slice (some ⟨n, 0, none⟩) 1 1) (w.alloc (.cells m 37))) w.heap.size :=
  Run_ok (run_buildSlice (P := pg) (t := 42) (e := 37) (n := 28) (z := .agg zMsg) (by kernel_rfl) (by kernel_rfl) (by kernel_rfl) (by decide) (by decide) (fun _ h => fill_one rfl h hm) w)
theorem bs_msg2 {a b : Msg} (ha : a.size = 28) (hb : b.size = 28) (k : Cont) (w : World) : bs 42 2 #[(0, .agg a), (1, .agg b)] k w = natK (fun n => k (.slice (some ⟨n, 0, none⟩) 2 2) (w.alloc (.cells (a ++ b) 37))) w.heap.size :=
  Run_ok (run_buildSlice (P := pg) (t := 42) (e := 37) (n := 28) (z := .agg zMsg) (by kernel_rfl) (by kernel_rfl) (by kernel_rfl) (by decide) (by decide) (fun _ h => fill_two rfl rfl h ha hb) w)

/-! ### Turns -/

structure MT where
  out : List Msg
  shut : List Int
  do_ : Bool
  tok : Nat

def flat : List Msg → Array Value
  | [] => #[]
  | m :: ms => m ++ flat ms

/-- A list in memory of its own (from block base on, and none of the hub's). -/
def Own (w : World) (own : Nat → Tag) (base : Nat) (v : Value) (T : TypeId) (n : Nat) (cs : Array Value) : Prop :=
  (n = 0 ∧ v = .slice none 0 0) ∨ ∃ b, base ≤ b ∧ own b = .none ∧ v = .slice (some ⟨b, 0, none⟩) n n ∧ hp w b = some (.cells cs T (0, 0))

structure TurnRep (w : World) (own : Nat → Tag) (base : Nat) (v : Value) (t : MT) : Prop where
  at_ : ∃ vo vs, v = .agg #[vo, vs, .bool t.do_, .int .u64 t.tok] ∧ Own w own base vo 37 t.out.length (flat t.out) ∧ Own w own base vs 3 t.shut.length (t.shut.map (Value.int .i64)).toArray
  out : ∀ m ∈ t.out, MsgOk m

theorem Own.ext {w w' : World} {own : Nat → Tag} {base : Nat} {v : Value} {T n : Nat} {cs : Array Value} {S : List Nat} (h : Own w own base v T n cs) (e : Ext S w w') (hS : ∀ b ∈ S, b < base ∨ own b ≠ .none ∨ w.heap.size ≤ b) : Own w' own base v T n cs := by
  rcases h with h | ⟨b, h1, h2, h3, h4⟩
  · exact .inl h
  · refine .inr ⟨b, h1, h2, h3, e.at h4 fun hb => ?_⟩
    have hlt := lt_of_hp h4
    rcases hS b hb with h5 | h5 | h5
    · omega
    · exact h5 h2
    · omega
theorem TurnRep.ext {w w' : World} {own : Nat → Tag} {base : Nat} {v : Value} {t : MT} {S : List Nat} (h : TurnRep w own base v t) (e : Ext S w w') (hS : ∀ b ∈ S, b < base ∨ own b ≠ .none ∨ w.heap.size ≤ b) : TurnRep w' own base v t := by
  obtain ⟨vo, vs, h1, h2, h3⟩ := h.at_
  exact ⟨⟨vo, vs, h1, h2.ext e hS, h3.ext e hS⟩, h.out⟩
theorem TurnRep.base {w : World} {own : Nat → Tag} {b b' : Nat} {v : Value} {t : MT} (h : TurnRep w own b v t) (hb : b' ≤ b) : TurnRep w own b' v t := by
  obtain ⟨vo, vs, h1, h2, h3⟩ := h.at_
  refine ⟨⟨vo, vs, h1, ?_, ?_⟩, h.out⟩
  · rcases h2 with h | ⟨c, h4, h5⟩
    · exact .inl h
    · exact .inr ⟨c, by omega, h5⟩
  · rcases h3 with h | ⟨c, h4, h5⟩
    · exact .inl h
    · exact .inr ⟨c, by omega, h5⟩

theorem Own.one {w : World} {own : Nat → Tag} {base : Nat} {v : Value} {T n : Nat} {cs : Array Value} (h : Own w own base v T n cs) : v.oneCell' = true := by
  rcases h with ⟨_, rfl⟩ | ⟨b, _, _, rfl, _⟩ <;> rfl

/-- A step with own work before and behind. -/
theorem Step.around {w w1 w2 w3 : World} {g g2 : Hb} {S : List Nat} (a : Ext [] w w1) (h : Step w1 g w2 g2) (b : Ext S w2 w3) (hS : ∀ x ∈ S, w.heap.size ≤ x ∧ g2.own x = .none) : Step w g w3 g2 :=
  ⟨b.os.trans (h.os.trans a.os), b.tape.trans (h.tape.trans a.tape), b.output.trans (h.output.trans a.output), Nat.le_trans a.size (Nat.le_trans h.size b.size),
    fun x hx hn => by
      have h1 : x < w1.heap.size := Nat.lt_of_lt_of_le hx a.size
      rw [b.same x (Nat.lt_of_lt_of_le h1 h.size) (fun hs => by have := (hS x hs).1; omega), h.same x h1 hn, a.same x hx (by simp)],
    fun x hx hn => h.own x (Nat.lt_of_lt_of_le hx a.size) hn, h.rep.ext b (fun x hx => (hS x hx).2), h.wf, h.blk⟩

/-! ### A connection is shut -/

def shutT (n : Int) (kind code : Nat) : MT := ⟨[mKC kind code], [n], false, 0⟩

theorem shut_spec {w : World} {g : Hb} {c : Cn} {now kind code : Nat} {Q : Cont} (hr : HubRep w g) (hw : g.Wf) (hn : now < 4294967296) (hc : c ∈ g.conns) (hcode : code < 256)
    (h : ∀ w' g' v, Step w g w' g' → g'.abs = g.abs.close c.n now → TurnRep w' g'.own w.heap.size v (shutT c.n kind code) → Q v w') :
    Ret pg n_session_Hub_shut #[pt g.blk 0, pt c.blk 0, .int .u32 now, .int .u8 kind, .int .i64 code] Q w := by
  apply session_Hub_shut_ok
  unfold session_Hub_shut
  obtain ⟨hat, hoc⟩ := hr.conn c hc
  have hlt := lt_of_hp hat
  have e1 : c.blk ≠ w.heap.size := by omega
  simp [hat, e1]
  have hr1 := hr.alloc (.cells #[.slice none 0 0, .slice none 0 0, .bool false, .int .u64 0] 45)
  refine Close_spec hr1 hw hn fun w2 g2 hst hcn how _ hab => ?_
  have hat2 : hp w2 c.blk = some (.cells #[.int .i64 c.n, ptO c.sess] 88 (0, 0)) := by rw [hcn _ _ hoc, hp_alloc, if_neg e1]; exact hat
  have hvar : hp w2 w.heap.size = some (.cells #[.slice none 0 0, .slice none 0 0, .bool false, .int .u64 0] 45 (0, 0)) := by
    rw [hst.same _ (by simp) (hr.fresh (Nat.le_refl _))]; simp
  have hs2 := hst.size
  simp at hs2
  have hlt2 := lt_of_hp hat2
  simp
  rw [wrap_u8 _ (by omega) (by omega)]
  simp
  rw [bs_msg1 (mKC_ok _ _).size]
  have n1 : ¬ w.heap.size = w2.heap.size + 1 := by omega
  have n2 : ¬ w.heap.size = w2.heap.size := by omega
  have n3 : w.heap.size < w2.heap.size + 1 + 1 := by omega
  simp [hat2, Nat.ne_of_lt hlt2, n1, n2, n3, hvar]
  have fresh : ∀ b, w2.heap.size ≤ b → g2.own b = .none := fun b hb => hst.rep.fresh hb
  have hown : g2.own w.heap.size = .none := by rw [how]; exact hr.fresh (Nat.le_refl _)
  refine h _ g2 _ (Step.around (S := [w.heap.size]) ((Ext.refl _ _).alloc) hst ((((Ext.refl _ _).alloc).alloc).put (.inl (by simp))) (by simpa using hown)) hab ⟨⟨_, _, rfl, .inr ⟨w2.heap.size, by omega, fresh _ (Nat.le_refl _), rfl, ?_⟩, .inr ⟨w2.heap.size + 1, by omega, fresh _ (by omega), rfl, ?_⟩⟩, ?_⟩
  · simp [flat, shutT, Ne.symm n2]
  · simp [shutT, Ne.symm n1]
  · intro m hm
    simp [shutT] at hm
    subst hm
    exact mKC_ok _ _
end Go.Proofs.Ytpdcllhmbjnooaa
