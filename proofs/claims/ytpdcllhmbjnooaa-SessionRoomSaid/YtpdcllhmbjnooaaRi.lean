/- The reference's hub: a message comes. -/
import Derived.Test.YtpdcllhmbjnooaaRh
namespace Go.Proofs.Ytpdcllhmbjnooaa
open Go.Dc
set_option maxRecDepth 10000

theorem ron_some {g : Rh} {k : Nat} {s : Rs} {n : Int} (ok : g.abs.Ok) (hk : g.sess[k]? = some s) (hp : (s.has && decide (s.conn = n)) = true) : g.abs.on n = some s.abs := by
  have hsc := (abs_conn s n).2 hp
  have hm : s.abs ∈ g.abs.sess := List.mem_map.2 ⟨s, List.mem_of_getElem? hk, rfl⟩
  unfold MH.on
  cases hf : g.abs.sess.find? (fun x => x.conn == some n) with
  | none =>
    rw [List.find?_eq_none] at hf
    exact absurd hsc (by simpa using hf _ hm)
  | some y =>
    have h1 := List.mem_of_find?_eq_some hf
    have h2 := List.find?_some hf
    simp only [beq_iff_eq] at h2
    have h3 := ok.u _ h1 _ hm n h2 hsc
    rw [nodup_inj ok.ndS h1 hm h3]
theorem ron_none {g : Rh} {n : Int} (h : ∀ s ∈ g.sess, (s.has && decide (s.conn = n)) = false) : g.abs.on n = none := by
  unfold MH.on
  rw [List.find?_eq_none]
  intro x hx
  obtain ⟨s, hs, rfl⟩ := List.mem_map.1 hx
  simp only [beq_iff_eq]
  intro e
  have := (abs_conn s n).1 e
  rw [h s hs] at this
  cases this

theorem and_one (n : Nat) : n &&& 1 = n % 2 := by simp
theorem and_two (n : Nat) : (n &&& 2 = 0) ↔ n / 2 % 2 = 0 := by
  have h : n.testBit 1 = decide (n / 2 % 2 = 1) := by
    rw [Nat.testBit_eq_decide_div_mod_eq]
  have h2 : (n &&& 2).testBit 1 = n.testBit 1 := by rw [Nat.testBit_and, show Nat.testBit 2 1 = true from rfl, Bool.and_true]
  constructor
  · intro e
    rw [e] at h2
    simp at h2
    rw [h] at h2
    simp at h2
    omega
  · intro e
    apply Nat.eq_of_testBit_eq
    intro i
    rw [Nat.testBit_and, Nat.zero_testBit]
    by_cases hi : i = 1
    · subst hi
      rw [h]
      simp [e]
    · have : (2 : Nat).testBit i = false := by
        have := Nat.testBit_two_pow (n := 1) (m := i)
        rw [Nat.pow_one] at this
        rw [this]
        simp
        omega
      simp [this]

/-- What is put in front of every way out. -/
structure InAt (w0 w : World) (g0 g : Rh) (xb vb : Nat) (m : Msg) : Prop where
  stp : RStep w0 g0 w g
  x : hp w xb = some (.cells m 37 (0, 0))
  xo : g.own xb = .none
  v : hp w vb = some (.cells #[.slice none 0 0, .slice none 0 0, .bool false, .int .u64 0] 45 (0, 0))
  vo : g.own vb = .none
  v0 : w0.heap.size ≤ vb
theorem InAt.ext {w0 w w' : World} {g0 g : Rh} {xb vb : Nat} {m : Msg} (h : InAt w0 w g0 g xb vb m) (x : Ext [] w w') : InAt w0 w' g0 g xb vb m :=
  ⟨h.stp.trans (RStep.idle h.stp.rep x), x.at h.x (by simp), h.xo, x.at h.v (by simp), h.vo, h.v0⟩
theorem InAt.step {w0 w w' : World} {g0 g g' : Rh} {xb vb : Nat} {m : Msg} (h : InAt w0 w g0 g xb vb m) (st : RStep w g w' g') : InAt w0 w' g0 g' xb vb m :=
  ⟨h.stp.trans st, by rw [st.same xb (lt_of_hp h.x) h.xo]; exact h.x, st.own xb (lt_of_hp h.x) h.xo, by rw [st.same vb (lt_of_hp h.v) h.vo]; exact h.v, st.own vb (lt_of_hp h.v) h.vo, h.v0⟩

theorem InAt.out {w0 w : World} {g0 g : Rh} {xb vb base : Nat} {m : Msg} {v : Value} {t : MT} {K : Cont} (h : InAt w0 w g0 g xb vb m) (hT : TurnRep w g.own base v t) (hb : w0.heap.size ≤ base) (h2 : vb < base) (hk : ∀ w', RStep w0 g0 w' g → TurnRep w' g.own w0.heap.size v t → K v w') :
    st 45 (pt vb 0) v (fun _ => (fun w' => ldq 45 (pt vb 0) (fun x => K x w') w')) w :=
  Rthrough h.stp hT hb h.v0 h2 h.vo h.v rfl hk

theorem InAt.shut {w0 w : World} {g0 g : Rh} {xb vb : Nat} {m : Msg} {n : Int} {now kind code : Nat} {K : Cont} (h : InAt w0 w g0 g xb vb m) (ok : g.abs.Ok) (hnow : now < 4294967296) (hcode : code < 256)
    (hk : ∀ w' g' v, RStep w0 g0 w' g' → g'.abs = g.abs.close n now → TurnRep w' g'.own w0.heap.size v (shutT n kind code) → K v w') :
    Ret pg n_lodestarref18_Hub_shut #[pt g.blk 0, I n, .int .u32 now, .int .u8 kind, .int .i64 code] (fun v => st 45 (pt vb 0) v fun _ => (fun w => ldq 45 (pt vb 0) (fun x => K x w) w)) w := by
  refine Rshut_spec h.stp.rep ok hnow hcode fun w2 g2 v st2 hab hT => ?_
  exact (h.step st2).out hT h.stp.size (lt_of_hp h.v) fun w' k1 k2 => hk w' g2 v k1 hab k2

/-- One message is sent. -/
theorem InAt.msg {w0 w : World} {g0 g : Rh} {xb vb : Nat} {m a : Msg} {K : Cont} (h : InAt w0 w g0 g xb vb m) (ha : MsgOk a) (hk : ∀ w' v, RStep w0 g0 w' g → TurnRep w' g.own w0.heap.size v ⟨[a], [], false, 0⟩ → K v w') :
    bs 42 1 #[(0, .agg a)] (fun v1 => bd 45 #[(0, v1)] fun v2 => st 45 (pt vb 0) v2 fun _ => (fun w => ldq 45 (pt vb 0) (fun x => K x w) w)) w := by
  rw [bs_msg1 ha.size]
  simp [-st_api_Turn]
  exact (h.ext ((Ext.refl _ _).alloc)).out (TurnRep.msg1 ha (h.stp.rep.fresh (Nat.le_refl _))) h.stp.size (lt_of_hp h.v) fun w' k1 k2 => hk w' _ k1 k2
theorem InAt.empty {w0 w : World} {g0 g : Rh} {xb vb : Nat} {m : Msg} {K : Cont} (h : InAt w0 w g0 g xb vb m) (hk : ∀ w' v, RStep w0 g0 w' g → TurnRep w' g.own w0.heap.size v MT.none → K v w') :
    bd 45 #[] (fun v2 => st 45 (pt vb 0) v2 fun _ => (fun w => ldq 45 (pt vb 0) (fun x => K x w) w)) w := by
  simp [-st_api_Turn]
  exact h.out (emptyT _ _ (vb + 1)) (by have := h.v0; omega) (by omega) fun w' k1 k2 => hk w' _ k1 k2

theorem rlacks {s : Rs} {kind : Nat} : s.abs.lacks kind = (decide (20 ≤ kind ∧ kind ≤ 23) && decide (s.caps % 2 = 0) || decide (17 ≤ kind ∧ kind ≤ 19) && decide (s.caps / 2 % 2 = 0)) := by
  unfold MS.lacks
  have e1 : s.abs.caps &&& 1 = s.caps % 2 := and_one s.caps
  have e2 : (s.abs.caps &&& 2 = 0) ↔ s.caps / 2 % 2 = 0 := and_two s.caps
  by_cases h1 : 20 ≤ kind ∧ kind ≤ 23
  · rw [if_pos h1, e1]
    simp [h1]
    omega
  · rw [if_neg h1]
    by_cases h2 : 17 ≤ kind ∧ kind ≤ 19
    · rw [if_pos h2]
      simp [h1, h2, e2]
    · rw [if_neg h2]
      simp [h1, h2]

/-- Where the request is asked for. -/
theorem RIn_j11 {w0 w : World} {g0 g : Rh} {n : Int} {now xb vb ab L cap k : Nat} {s : Rs} {m : Msg} {f : MF} {Q : Cont} (I0 : InAt w0 w g0 g xb vb m) (ok : g.abs.Ok) (hnow : now < 4294967296) (hm : MsgF m f) (hk : g.sess[k]? = some s) (hL : LAt w g L cap) (hlen : s.ans.length + 1 < 1073741824)
    (hab : hp w ab = some (.cells (s.abs.ask f.req).1 37 (0, 0))) (hok : MsgOk (s.abs.ask f.req).1) (hao : g.own ab = .none) (h0a : w0.heap.size ≤ ab) (hav : ab ≠ vb) (hax : ab ≠ xb) (hk23 : f.kind ≤ 23) (hreq : 0 < f.req ∧ f.req ≤ s.abs.limit)
    (h : ∀ w' g' v, RStep w0 g0 w' g' → g'.abs = (g.abs.request n now f s.abs).1 → TurnRep w' g'.own w0.heap.size v (g.abs.request n now f s.abs).2 → Q (.tuple #[v, I 0]) w') :
    lodestarref18_Hub_In_j11 Q (pt g.blk 0) (I n) (.int .u32 now) (pt xb 0) (pt vb 0) (pt L (k * 10)) (pt ab 0) (I (s.abs.ask f.req).2) w := by
  unfold MH.request at h
  rw [if_neg (by simpa using hreq)] at h
  have hb1 := hm.b1
  have hw32 : IntKind.wrap .i64 (f.req : Int) = (f.req : Int) := wrap_i64 _ (by omega) (by omega)
  unfold lodestarref18_Hub_In_j11
  simp
  by_cases h2 : (s.abs.ask f.req).2 = 2
  · rw [ifB_pos (by simp; omega), ld_msg _ _ _ hab hok.size]
    rw [if_pos h2] at h
    exact I0.msg (K := fun v w => Q (.tuple #[v, I 0]) w) hok fun w' v k1 k2 => h w' g v k1 rfl k2
  rw [ifB_neg (by simp; omega)]
  rw [if_neg h2] at h
  unfold lodestarref18_Hub_In_j12
  simp
  by_cases h3 : (s.abs.ask f.req).2 = 3
  · rw [ifB_pos (by simp; omega)]
    rw [if_pos h3] at h
    simp [I0.x, hm.k1, -bs_s_api_Message_1_0]
    exact I0.msg (K := fun v w => Q (.tuple #[v, I 0]) w) (mAns_ok f.req 160) fun w' v k1 k2 => h w' g v k1 rfl k2
  rw [ifB_neg (by simp; omega)]
  rw [if_neg h3] at h
  unfold lodestarref18_Hub_In_j13
  simp
  by_cases h4 : (s.abs.ask f.req).2 = 4
  · rw [ifB_pos (by simp; omega)]
    rw [if_pos h4] at h
    exact I0.shut (K := fun v w => Q (.tuple #[v, I 0]) w) (kind := 6) (code := 180) ok hnow (by decide) fun w' g' v k1 k2 k3 => h w' g' v k1 k2 k3
  rw [ifB_neg (by simp; omega)]
  rw [if_neg h4] at h
  have c0 := hL.cell k _ hk 0 _ rfl
  have c1 := hL.cell k _ hk 1 _ rfl
  have c1' : cellOf (hp w L) (k * 10 + 1) = some (.int .u32 s.caps) := c1
  have c0' : cellOf (hp w L) (k * 10) = some (.int .u64 s.tok) := c0
  have hcaps := (I0.stp.rep.sess s (List.mem_of_getElem? hk)).caps
  have key : lodestarref18_Hub_In_j16 Q (pt xb 0) (pt vb 0) (pt L (k * 10)) (pt ab 0) (.bool (s.abs.lacks f.kind)) w := by
    unfold lodestarref18_Hub_In_j16
    simp
    cases hlk : s.abs.lacks f.kind with
    | true =>
      rw [hlk] at h
      simp at h
      simp [I0.x, hm.k1, -st_api_Message]
      obtain ⟨w1, hw1⟩ : ∃ w1, w1 = put w ab (.cells (mAns f.req 181) 37 (0, 0)) := ⟨_, rfl⟩
      have hsz : (s.abs.ask f.req).1.size = 28 := hok.size
      rw [st_msg _ (mAns_ok _ _) _ _ hab hsz, ← hw1]
      have x1 : Ext [ab] w w1 := by rw [hw1]; exact Ext.put (Ext.refl _ _) (.inl (by simp))
      have ha1 : hp w1 ab = some (.cells (mAns f.req 181) 37 (0, 0)) := by rw [hw1]; simp [lt_of_hp hab]
      clear hw1
      have hxx := x1.at I0.x (by simpa using Ne.symm hax)
      have hLne : L ≠ ab := by intro e; rw [← e, hL.own] at hao; cases hao
      have I1 : InAt w0 w1 g0 g xb vb m := ⟨I0.stp.fresh x1 (by simp; exact ⟨h0a, hao⟩), hxx, I0.xo, x1.at I0.v (by simpa using Ne.symm hav), I0.vo, I0.v0⟩
      have hLlt := I0.stp.rep.lt L (by rw [hL.own]; simp)
      have hL1 : LAt w1 g L cap := ⟨hL.vl, fun k s hk j u hu => by rw [x1.same L hLlt (by simpa using hLne)]; exact hL.cell k s hk j u hu, fun k s hk => by rw [x1.same L hLlt (by simpa using hLne)]; exact hL.row k s hk, hL.own⟩
      have hrw : rowOf (hp w1 ab) 0 28 = some (.agg (mAns f.req 181)) := by rw [ha1]; exact rowOf_whole _ _ _ _ (mAns_ok _ _).size
      simp [hxx, hm.k1, hw32, hrw]
      refine RKeep_spec (I1.ext ((Ext.refl _ _).drw)).stp.rep hL1.drw hk hm.b1 (mAns_ok _ _) hlen fun w2 g2 st2 hab2 => ?_
      have I2 := (I1.ext ((Ext.refl _ _).drw)).step st2
      have ha2 : hp w2 ab = some (.cells (mAns f.req 181) 37 (0, 0)) := by rw [st2.same ab (lt_of_hp ha1) hao]; exact ha1
      rw [ld_msg _ _ _ ha2 (mAns_ok _ _).size]
      exact I2.msg (K := fun v w => Q (.tuple #[v, I 0]) w) (mAns_ok _ _) fun w' v k1 k2 => h w' g2 v k1 hab2 k2
    | false =>
      rw [hlk] at h
      simp at h
      simp
      unfold lodestarref18_Hub_In_j15
      simp [c0', -st_api_Turn]
      exact I0.out (K := fun v w => Q (.tuple #[v, I 0]) w) (t := ⟨[], [], true, s.abs.tok⟩) ⟨⟨_, _, rfl, .inl ⟨rfl, rfl⟩, .inl ⟨rfl, rfl⟩⟩, by simp⟩ I0.stp.size (lt_of_hp I0.v) fun w' k1 k2 => h w' g _ k1 rfl k2
  rw [rlacks] at key
  unfold lodestarref18_Hub_In_j14
  have d1 : (s.caps : Int).tmod 2 = ((s.caps % 2 : Nat) : Int) := by rw [Int.tmod_eq_emod_of_nonneg (by omega)]; omega
  have d2 : IntKind.wrap .u32 ((s.caps : Int).tdiv 2) = ((s.caps / 2 : Nat) : Int) := by rw [Int.tdiv_eq_ediv_of_nonneg (by omega), wrap_u32 _ (by omega) (by omega)]; omega
  have d3 : (((s.caps / 2 : Nat) : Int)).tmod 2 = ((s.caps / 2 % 2 : Nat) : Int) := by rw [Int.tmod_eq_emod_of_nonneg (by omega)]; omega
  simp [I0.x, hm.k0]
  by_cases a : 20 ≤ f.kind
  · rw [ifB_pos (by simp; omega)]
    simp [c1', d1]
    by_cases b : s.caps % 2 = 0
    · rw [ifB_pos (by simp; omega)]
      simpa [a, hk23, b] using key
    · rw [ifB_neg (by simp; omega)]
      simp [I0.x, hm.k0]
      rw [ifB_pos (by simp; omega)]
      simp [I0.x, hm.k0]
      rw [ifB_neg (by simp; omega)]
      simpa [a, hk23, b, show ¬ f.kind ≤ 19 from by omega] using key
  · rw [ifB_neg (by simp; omega)]
    simp [I0.x, hm.k0]
    by_cases b : 17 ≤ f.kind
    · rw [ifB_pos (by simp; omega)]
      simp [I0.x, hm.k0]
      rw [ifB_pos (by simp; omega)]
      simp [c1', d2, d3]
      have e : decide ((IntKind.u32.wrap ((s.caps : Int) / 2)).tmod 2 = 0) = decide (s.caps / 2 % 2 = 0) := by
        rw [wrap_u32 _ (by omega) (by omega), Int.tmod_eq_emod_of_nonneg (by omega), decide_eq_decide]
        omega
      rw [e]
      simpa [a, b, show f.kind ≤ 19 from by omega] using key
    · rw [ifB_neg (by simp; omega)]
      simpa [a, b] using key

/-- A message on a session's connection. -/
theorem RIn_j5 {w0 w : World} {g0 g : Rh} {n : Int} {now xb vb L cap k : Nat} {s : Rs} {m : Msg} {f : MF} {Q : Cont} (I0 : InAt w0 w g0 g xb vb m) (ok : g.abs.Ok) (hnow : now < 4294967296) (hm : MsgF m f) (hk : g.sess[k]? = some s) (hL : LAt w g L cap) (hlen : s.ans.length + 1 < 1073741824) (h6 : f.kind ≠ 6)
    (hn : n ∈ g.abs.conns) (hon : g.abs.on n = some s.abs) (hxv : xb < vb)
    (h : ∀ w' g' v, RStep w0 g0 w' g' → g'.abs = (g.abs.in_ n now f).1 → TurnRep w' g'.own w0.heap.size v (g.abs.in_ n now f).2.1 → Q (.tuple #[v, I ((g.abs.in_ n now f).2.2 : Nat)]) w') :
    lodestarref18_Hub_In_j5 Q (pt g.blk 0) (I n) (.int .u32 now) (pt xb 0) (pt vb 0) (pt L (k * 10)) w := by
  have hin : g.abs.in_ n now f = (if f.kind = 7 then (g.abs, ⟨[mKN 8 f.n], [], false, 0⟩, 0)
      else if f.kind = 8 then (g.abs, MT.none, 0)
      else if f.kind = 10 ∧ f.n ≤ s.abs.done then
        (g.abs.put ((s.abs.ack f.n).had f.n), if s.abs.limit < ((s.abs.ack f.n).had f.n).limit then ⟨[mKN 9 ((s.abs.ack f.n).had f.n).limit], [], false, 0⟩ else MT.none, 0)
      else if 11 ≤ f.kind ∧ f.kind ≤ 23 then ((g.abs.request n now f s.abs).1, (g.abs.request n now f s.abs).2, 0)
      else (g.abs.close n now, shutT n 6 180, 0)) := by
    unfold MH.in_
    rw [if_neg (by simpa using hn), if_neg h6, hon]
  have hb5 := hm.b5
  have hb1 := hm.b1
  have hr := I0.stp.rep
  have hs := hr.sess s (List.mem_of_getElem? hk)
  have hdone := done_abs hs.ack
  unfold lodestarref18_Hub_In_j5
  simp [I0.x, hm.k0]
  by_cases h7 : f.kind = 7
  · rw [ifB_pos (by simp [h7])]
    rw [hin, if_pos h7] at h
    simp [I0.x, hm.k5, -bs_s_api_Message_1_0]
    exact I0.msg (K := fun v w => Q (.tuple #[v, I 0]) w) (mKN_ok 8 f.n) fun w' v k1 k2 => h w' g v k1 rfl k2
  rw [ifB_neg (by simp; omega)]
  rw [if_neg h7] at hin
  unfold lodestarref18_Hub_In_j6
  simp [I0.x, hm.k0]
  by_cases h8 : f.kind = 8
  · rw [ifB_pos (by simp [h8])]
    rw [hin, if_pos h8] at h
    exact I0.empty (K := fun v w => Q (.tuple #[v, I 0]) w) fun w' v k1 k2 => h w' g v k1 rfl k2
  rw [ifB_neg (by simp; omega)]
  rw [if_neg h8] at hin
  have I1 := I0.ext ((Ext.refl _ _).drw)
  have hL1 := hL.drw
  have rest : ∀ w1, Ext [] w w1 → ¬ (f.kind = 10 ∧ f.n ≤ s.abs.done) → lodestarref18_Hub_In_j8 Q (pt g.blk 0) (I n) (.int .u32 now) (pt xb 0) (pt vb 0) (pt L (k * 10)) w1 := by
    intro w1 x1 h10
    rw [if_neg h10] at hin
    have I2 := I0.ext x1
    have hLlt := hr.lt L (by rw [hL.own]; simp)
    have hL2 : LAt w1 g L cap := ⟨hL.vl, fun k s hk j u hu => by rw [x1.same L hLlt (by simp)]; exact hL.cell k s hk j u hu, fun k s hk => by rw [x1.same L hLlt (by simp)]; exact hL.row k s hk, hL.own⟩
    unfold lodestarref18_Hub_In_j8
    simp [I2.x, hm.k0]
    have bad : ¬ (11 ≤ f.kind ∧ f.kind ≤ 23) → lodestarref18_Hub_In_j18 Q (pt g.blk 0) (I n) (.int .u32 now) (pt xb 0) (pt vb 0) (pt L (k * 10)) (.bool true) w1 := by
      intro h11
      rw [if_neg h11] at hin
      rw [hin] at h
      unfold lodestarref18_Hub_In_j18
      simp
      exact I2.shut (K := fun v w => Q (.tuple #[v, I 0]) w) (kind := 6) (code := 180) ok hnow (by decide) fun w' g' v k1 k2 k3 => h w' g' v k1 k2 k3
    by_cases h11 : 11 ≤ f.kind
    · rw [ifB_neg (by simp; omega)]
      simp [I2.x, hm.k0]
      by_cases h23 : f.kind ≤ 23
      · rw [show decide ((23 : Int) < (f.kind : Int)) = false from by simp; omega]
        rw [if_pos ⟨h11, h23⟩] at hin
        rw [hin] at h
        unfold lodestarref18_Hub_In_j18
        simp
        unfold lodestarref18_Hub_In_j9
        simp [I2.x, hm.k1]
        have low : ∀ w2, Ext [] w1 w2 → ¬ (0 < f.req ∧ f.req ≤ s.abs.limit) → lodestarref18_Hub_In_j17 Q (pt g.blk 0) (I n) (.int .u32 now) (pt xb 0) (pt vb 0) (pt L (k * 10)) (.bool true) w2 := by
          intro w2 x2 hno
          unfold MH.request at h
          rw [if_pos hno] at h
          unfold lodestarref18_Hub_In_j17
          simp
          exact (I2.ext x2).shut (K := fun v w => Q (.tuple #[v, I 0]) w) (kind := 6) (code := 170) ok hnow (by decide) fun w' g' v k1 k2 k3 => h w' g' v k1 k2 k3
        by_cases hr0 : f.req < 1
        · rw [ifB_pos (by simp; omega)]
          exact low _ ((Ext.refl _ _).drw) (by omega)
        rw [ifB_neg (by simp; omega)]
        have hw64 : IntKind.wrap .i64 (f.req : Int) = (f.req : Int) := wrap_i64 _ (by omega) (by omega)
        simp [I2.x, hm.k1, hw64]
        refine RLimit_spec hL2.drw hk hs.hadB hs.s8 ?_
        simp [I2.x, hm.k1, hw64]
        by_cases hlim : s.abs.limit < f.req
        · rw [show decide (s.abs.limit < f.req) = true from by simpa using hlim]
          exact low _ ((Ext.refl _ _).drw.drw) (by omega)
        rw [show decide (s.abs.limit < f.req) = false from by simpa using hlim]
        unfold lodestarref18_Hub_In_j17
        simp
        have I3 := I2.ext ((Ext.refl _ _).drw.drw)
        have hL3 := hL2.drw.drw
        have hr3 := I3.stp.rep
        have hok : MsgOk (s.abs.ask f.req).1 := by
          unfold MS.ask Tb.ask
          split
          · exact zMsg_ok
          split
          · cases hx : s.abs.tb.msgs[f.req - (s.abs.tb.acked + 1)]? with
            | none => exact zMsg_ok
            | some a =>
              have hmem : a ∈ s.ans.drop s.acked := List.mem_of_getElem? hx
              exact hs.msgs a (List.mem_of_mem_drop hmem)
          split
          · exact zMsg_ok
          · exact zMsg_ok
        have go : ∀ w4 ab, Ext [] (drw (drw w1)) w4 → hp w4 ab = some (.cells (s.abs.ask f.req).1 37 (0, 0)) → (drw (drw w1)).heap.size ≤ ab →
            lodestarref18_Hub_In_j11 Q (pt g.blk 0) (I n) (.int .u32 now) (pt xb 0) (pt vb 0) (pt L (k * 10)) (pt ab 0) (I (s.abs.ask f.req).2) w4 := by
          intro w4 ab x4 hab hge
          have I4 := I3.ext x4
          have hL4 : LAt w4 g L cap := ⟨hL.vl, fun k s hk j u hu => by rw [x4.same L (hr3.lt L (by rw [hL.own]; simp)) (by simp)]; exact hL3.cell k s hk j u hu, fun k s hk => by rw [x4.same L (hr3.lt L (by rw [hL.own]; simp)) (by simp)]; exact hL3.row k s hk, hL.own⟩
          have l1 := lt_of_hp I3.v
          have l2 := lt_of_hp I3.x
          refine RIn_j11 I4 ok hnow hm hk hL4 hlen hab hok (hr3.fresh hge) (by have := I0.v0; omega) (by omega) (by omega) h23 (by omega) h
        unfold lodestarref18_Hub_In_j10
        simp [I3.x, hm.k1, hw64]
        have hd : (drw (drw w1)).heap.size = w1.heap.size := rfl
        refine ⟨?_, ?_⟩
        · refine RAsk_spec hr3.drw hL3.drw hk hm.b1 fun w4 x4 => ?_
          simp [al_msg, -al_api_Message, -st_api_Message]
          have hsz := x4.size
          simp at hsz
          rw [st_msg _ hok _ _ (c := zMsg) (T := 37) (by simp) rfl]
          refine go _ w4.heap.size ((((Ext.refl _ _).drw).trans x4 (by simp)).trans (((Ext.refl [] w4).alloc).put (.inr (Nat.le_refl _))) (by simp)) (by simp) ?_
          simpa using hsz
        · have nx : ¬ xb = w1.heap.size := Nat.ne_of_lt (lt_of_hp I2.x)
          have hx2' := I2.x
          simp [al_msg, -al_api_Message, -st_api_Message, hx2', hm.k1, hw64, nx]
          have x5 : Ext [] (drw (drw w1)) ((drw (drw (drw w1))).alloc (.cells zMsg 37)) := ((Ext.refl _ _).drw).alloc
          have hr5 := hr3.ext x5 (by simp)
          have hL5 : LAt ((drw (drw (drw w1))).alloc (.cells zMsg 37)) g L cap := ⟨hL.vl, fun k s hk j u hu => by rw [x5.same L (hr3.lt L (by rw [hL.own]; simp)) (by simp)]; exact hL3.cell k s hk j u hu, fun k s hk => by rw [x5.same L (hr3.lt L (by rw [hL.own]; simp)) (by simp)]; exact hL3.row k s hk, hL.own⟩
          refine RAsk_spec hr5 hL5 hk hm.b1 fun w4 x4 => ?_
          simp [-st_api_Message]
          have ha4 : hp w4 w1.heap.size = some (.cells zMsg 37 (0, 0)) := x4.at (by simp; rfl) (by simp)
          rw [st_msg _ hok _ _ ha4 rfl]
          refine go _ w1.heap.size ((x5.trans x4 (by simp)).put (.inr (Nat.le_refl _))) (by simp [lt_of_hp ha4]) (Nat.le_refl _)
      · rw [show decide ((23 : Int) < (f.kind : Int)) = true from by simp; omega]
        exact bad (by omega)
    · rw [ifB_pos (by simp; omega)]
      exact bad (by omega)
  unfold lodestarref18_Hub_In_j7
  simp [I0.x, hm.k0]
  have stayF : ¬ (f.kind = 10 ∧ f.n ≤ s.abs.done) → ∀ w1, Ext [] w w1 → lodestarref18_Hub_In_j19 Q (pt g.blk 0) (I n) (.int .u32 now) (pt xb 0) (pt vb 0) (pt L (k * 10)) (.bool false) w1 := by
    intro h10 w1 x1
    unfold lodestarref18_Hub_In_j19
    simp
    exact rest w1 x1 h10
  by_cases h10 : f.kind = 10
  · rw [ifB_pos (by simp [h10])]
    have hw64 : IntKind.wrap .i64 (f.n : Int) = (f.n : Int) := wrap_i64 _ (by omega) (by omega)
    simp [I0.x, hm.k5, hw64]
    refine RAck_spec I1.stp.rep hL1 hk (fun hlt => ?_) (fun hle w1 x1 z1 hr1 hL2 => ?_)
    · simp
      exact stayF (by rw [hdone]; omega) _ ((Ext.refl _ _).drw)
    · simp
      rw [if_pos ⟨h10, by rw [hdone]; exact hle⟩] at hin
      unfold lodestarref18_Hub_In_j19
      simp
      have hLx : xb ≠ L := by intro e; have := I0.xo; rw [e, hL.own] at this; cases this
      have hLv : vb ≠ L := by intro e; have := I0.vo; rw [e, hL.own] at this; cases this
      have hk1 : (g.setR k (s.acks f.n)).sess[k]? = some (s.acks f.n) := set_get hk
      have st1 : RStep (drw w) g w1 (g.setR k (s.acks f.n)) := RStep.of x1 (by intro b hb _; simp at hb; rw [hb, hL.own]; simp) (fun _ _ h => h) rfl hr1 (fun hz => Z_set hz hk rfl rfl)
      have I2 := I1.step st1
      have hL2' : LAt w1 (g.setR k (s.acks f.n)) L cap := hL2
      refine RLimit_spec hL2' hk1 hs.hadB hs.s8 ?_
      have c5 := hL2'.cell k _ hk1 5 _ rfl
      have c5' : cellOf (hp w1 L) (k * 10 + 5) = some (I s.had) := c5
      have hx2 := I2.x
      have hadB := hs.hadB
      simp [c5', hx2, hm.k5, hw64, -st_int]
      have em : (if s.had < f.n then (f.n : Int) else (s.had : Int)) = ((max s.had f.n : Nat) : Int) := by omega
      rw [em]
      let s2 : Rs := { s.acks f.n with had := max s.had f.n }
      have hs2 : RsRep w1 g.own (s.acks f.n) := hr1.sess _ (List.mem_of_getElem? hk1)
      obtain ⟨c3, t1, t2, t3, t4⟩ := (hr1.drw.drw).write (k := k) (j := 5) (s' := s2) (v := I (max s.had f.n : Nat)) hL2'.drw.drw hk1 (by decide) rfl rfl
        (fun w' x => hs2.upd hL.own (((Ext.refl _ _).drw.drw).trans x (by simp)) rfl rfl rfl rfl rfl (by show max s.had f.n < _; omega) rfl hs.since)
      obtain ⟨w3, hw3⟩ : ∃ w3, w3 = put (drw (drw w1)) L (.cells (c3.setIfInBounds (k * 10 + 5) (I (max s.had f.n : Nat))) 116 (0, 0)) := ⟨_, rfl⟩
      refine st_at (w' := w3) (by kernel_rfl) rfl t1 t2 hw3 ?_
      rw [← hw3] at t3 t4
      have x3 : Ext [L] w1 w3 := by rw [hw3]; exact ((Ext.refl _ _).drw.drw).put (.inl (by simp))
      clear hw3
      have hg3 : (g.setR k (s.acks f.n)).setR k s2 = g.setR k s2 := by simp [Rh.setR]
      have t3' : RRep w3 (g.setR k s2) := by rw [← hg3]; exact t3
      have t4' : LAt w3 (g.setR k s2) L cap := by rw [← hg3]; exact t4
      have hk3 : (g.setR k s2).sess[k]? = some s2 := set_get hk
      have st3 : RStep w1 (g.setR k (s.acks f.n)) w3 (g.setR k s2) := RStep.of x3 (by intro b hb _; simp at hb; rw [hb]; show g.own L ≠ _; rw [hL.own]; simp) (fun _ _ h => h) rfl t3' (fun hz => by rw [← hg3]; exact Z_set hz hk1 rfl rfl)
      have I3 := I2.step st3
      have hs2abs : s2.abs = (s.abs.ack f.n).had f.n := by
        rw [← acks_abs hs.ack hle]
        unfold MS.had
        show Rs.abs { s.acks f.n with had := max s.had f.n } = _
        have h8 := hs.s8
        unfold Rs.acks Rs.abs
        simp
        omega
      have habs3 : (g.setR k s2).abs = g.abs.put ((s.abs.ack f.n).had f.n) := by rw [setR_abs (s' := s2) hr.ndS hk rfl, hs2abs]
      have hl0 : (s.acks f.n).abs.limit = s.abs.limit := rfl
      rw [hin, ← hs2abs] at h
      simp
      refine RLimit_spec t4' hk3 (by show max s.had f.n < _; omega) hs.s8 ?_
      simp
      have hmono : s.abs.limit ≤ s2.abs.limit := by
        show min _ _ ≤ min (max s.had f.n + s.size) 1073741824
        have : s.abs.limit = min (s.had + s.size) 1073741824 := rfl
        omega
      rw [hl0]
      by_cases hlt : s.abs.limit < s2.abs.limit
      · rw [ifB_neg (by simp; omega)]
        rw [if_pos hlt] at h
        simp
        have I4 := I3.ext ((Ext.refl _ _).drw)
        refine RLimit_spec t4'.drw hk3 (by show max s.had f.n < _; omega) hs.s8 ?_
        have hl2 : s2.abs.limit ≤ 1073741824 := by show min _ _ ≤ _; omega
        simp [-bs_s_api_Message_1_0]
        rw [wrap_u32 _ (by omega) (by omega)]
        exact (I4.ext ((Ext.refl _ _).drw)).msg (K := fun v w => Q (.tuple #[v, I 0]) w) (mKN_ok _ _) fun w' v k1 k2 => h w' _ v k1 (by rw [habs3, hs2abs]) k2
      · rw [ifB_pos (by simp; omega)]
        rw [if_neg hlt] at h
        exact (I3.ext ((Ext.refl _ _).drw)).empty (K := fun v w => Q (.tuple #[v, I 0]) w) fun w' v k1 k2 => h w' _ v k1 (by rw [habs3, hs2abs]) k2
  · rw [ifB_neg (by simp; omega)]
    exact stayF (by omega) _ ((Ext.refl _ _).drw)

theorem RIn_spec {w : World} {g : Rh} {n : Int} {now : Nat} {m : Msg} {f : MF} {Q : Cont} (hr : RRep w g) (ok : g.abs.Ok) (hnow : now < 4294967296) (hm : MsgF m f) (hlast : g.last + 1 < 18446744073709551616) (htok : ∀ s ∈ g.sess, s.tok ≤ g.last) (hlen : ∀ s ∈ g.sess, s.ans.length + 1 < 1073741824)
    (h : ∀ w' g' v, RStep w g w' g' → g'.abs = (g.abs.in_ n now f).1 → TurnRep w' g'.own w.heap.size v (g.abs.in_ n now f).2.1 → Q (.tuple #[v, I ((g.abs.in_ n now f).2.2 : Nat)]) w') :
    Ret pg n_lodestarref18_Hub_In #[pt g.blk 0, I n, .int .u32 now, .agg m] Q w := by
  apply lodestarref18_Hub_In_ok
  unfold lodestarref18_Hub_In
  simp
  obtain ⟨w1, hw1⟩ : ∃ w1, w1 = (w.alloc (.cells m 37)).alloc (.cells #[.slice none 0 0, .slice none 0 0, .bool false, .int .u64 0] 45) := ⟨_, rfl⟩
  rw [← hw1]
  have x1 : Ext [] w w1 := by rw [hw1]; exact ((Ext.refl _ _).alloc).alloc
  have hx : hp w1 w.heap.size = some (.cells m 37 (0, 0)) := by rw [hw1]; simp
  have hv : hp w1 (w.heap.size + 1) = some (.cells #[.slice none 0 0, .slice none 0 0, .bool false, .int .u64 0] 45 (0, 0)) := by rw [hw1]; simp
  clear hw1
  have I1 : InAt w w1 g g w.heap.size (w.heap.size + 1) m := ⟨RStep.idle hr x1, hx, hr.fresh (Nat.le_refl _), hv, hr.fresh (by omega), by omega⟩
  have hr1 := I1.stp.rep
  have hat := hr1.at_
  unfold Rh.cells at hat
  have hs8 : g.sess.length ≤ 8 := by have := ok.ls; unfold Rh.abs at this; simpa using this
  unfold lodestarref18_Hub_In_j0
  simp [hat]
  refine Has_spec hr1.vc (by have := ok.lc; rw [absC] at this; omega) ?_
  simp
  by_cases hn : n ∈ g.conns
  · rw [show (!decide (n ∈ g.conns)) = false from by simp [hn]]
    have hn' : n ∈ g.abs.conns := hn
    simp
    unfold lodestarref18_Hub_In_j1
    simp [hx, hm.k0]
    by_cases h6 : f.kind = 6
    · rw [ifB_pos (by simp [h6])]
      have hin : g.abs.in_ n now f = (g.abs.close n now, ⟨[], [n], false, 0⟩, 0) := by unfold MH.in_; rw [if_neg (by simpa using hn'), if_pos h6]
      rw [hin] at h
      refine RClose_spec hr1 ok hnow fun w2 g2 st2 hab _ => ?_
      have I2 := I1.step st2
      simp [-st_api_Turn]
      refine (I2.ext ((Ext.refl _ _).alloc)).out (K := fun v w => Q (.tuple #[v, I 0]) w) (t := ⟨[], [n], false, 0⟩) (base := w2.heap.size) ⟨⟨_, _, rfl, .inl ⟨rfl, rfl⟩, .inr ⟨w2.heap.size, Nat.le_refl _, st2.rep.fresh (Nat.le_refl _), rfl, by simp⟩⟩, by simp⟩ I2.stp.size (lt_of_hp I2.v) fun w' k1 k2 => h w' g2 _ k1 hab k2
    · rw [ifB_neg (by simp; omega)]
      unfold lodestarref18_Hub_In_j2
      refine Of_spec hr1 hs8 ?_
      unfold lodestarref18_Hub_In_j3
      rcases idx_cases (fun s => s.has && decide (s.conn = n)) g.sess with ⟨k, s, hk, hpp, hidx, hkl⟩ | ⟨hidx, hnone⟩
      · rw [hidx]
        rw [bo_lss, iteW_bool, ifB_neg (by simp)]
        unfold lodestarref18_Hub_In_j4
        obtain ⟨L, cap, hL⟩ := hr1.lat (by intro e; rw [e] at hk; simp at hk)
        have hvl := hL.vl
        simp [hat, hvl, hkl]
        exact RIn_j5 I1 ok hnow hm hk hL (hlen s (List.mem_of_getElem? hk)) h6 hn' (ron_some ok hk hpp) (by omega) h
      · rw [hidx]
        simp [-ld_api_Message]
        rw [ld_msg _ _ _ hx hm.ok.size]
        have hin : g.abs.in_ n now f = ((g.abs.fresh n now f).1, (g.abs.fresh n now f).2, 0) := by
          unfold MH.in_ MH.fresh
          rw [if_neg (by simpa using hn'), if_neg h6, ron_none hnone]
          simp only
          split
          · rfl
          · split <;> rfl
        rw [hin] at h
        refine Rfresh_spec hr1 ok hnow hm hlast htok fun w2 g2 v st2 hab hT => ?_
        exact (I1.step st2).out (K := fun v w => Q (.tuple #[v, I 0]) w) hT I1.stp.size (lt_of_hp I1.v) fun w' k1 k2 => h w' g2 v k1 hab k2
  · rw [show (!decide (n ∈ g.conns)) = true from by simp [hn]]
    have hn' : n ∉ g.abs.conns := hn
    have hin : g.abs.in_ n now f = (g.abs, MT.none, 2) := by unfold MH.in_; rw [if_pos hn']
    rw [hin] at h
    simp only [iteW_bool, ifB_true]
    exact I1.empty (K := fun v w => Q (.tuple #[v, I 2]) w) fun w' v k1 k2 => h w' g v k1 rfl k2
end Go.Proofs.Ytpdcllhmbjnooaa
