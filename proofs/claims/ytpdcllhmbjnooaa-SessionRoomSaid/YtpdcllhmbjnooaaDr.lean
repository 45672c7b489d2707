/- Regions whose order is drawn: one walk by phases serves every order. -/
import Derived.Test.YtpdcllhmbjnooaaSw
namespace Go.Dc

theorem allIdx_spec {p : Oper → Nat → Bool} : ∀ (l : List Oper) (k : Nat), allIdx p k l = true → ∀ i o, l[i]? = some o → p o (k + i) = true
  | [], _, _, i, o, h => by simp at h
  | x :: l, k, ht, i, o, h => by
    simp only [allIdx, Bool.and_eq_true] at ht
    cases i with
    | zero => simp at h; subst h; exact ht.1
    | succ i =>
      have := allIdx_spec l (k + 1) ht.2 i o (by simpa using h)
      rwa [show k + (i + 1) = k + 1 + i from by omega]

theorem maskOf_bit (T : List Nat) (j : Nat) : ∀ ds : List Nat, (maskOf T ds).testBit j = true → ∃ e ∈ ds, e = j ∨ has T e j = true
  | [], h => by simp [maskOf] at h
  | e :: ds, h => by
    have h' : ((2 ^ e ||| T.getD e 0) ||| maskOf T ds).testBit j = true := h
    rw [Nat.testBit_or, Nat.testBit_or, Bool.or_eq_true, Bool.or_eq_true] at h'
    rcases h' with (h' | h') | h'
    · rw [Nat.testBit_two_pow] at h'
      exact ⟨e, by simp, .inl (by simpa using h')⟩
    · exact ⟨e, by simp, .inr h'⟩
    · obtain ⟨x, hx, hh⟩ := maskOf_bit T j ds h'
      exact ⟨x, by simp [hx], hh⟩

section
variable {P : Program} {n : Nat} {all : List Oper} {T : List Nat}

structure Fine (P : Program) (all : List Oper) (T : List Nat) (o : Oper) (i : Nat) : Prop where
  lt : ∀ e ∈ deps o, e < i
  anc : ∀ j, has T i j = true → ∃ e ∈ deps o, e = j ∨ has T e j = true
  sel : ∀ cs b, o.op ≠ .select cs b
  rd : ∀ t ∈ reads all o, ∀ j o', all[j]? = some o' → o'.dst = some t → has T i j = true ∨ (loudB P o'.op = true ∧ has T j i = true)
  dd : ∀ j o', all[j]? = some o' → j ≠ i → ∀ d, o.dst = some d → o'.dst ≠ some d

theorem fine_of (h : okR P all T = true) {i : Nat} {o : Oper} (hi : all[i]? = some o) : Fine P all T o i := by
  have h0 := allIdx_spec all 0 h i o hi
  rw [Nat.zero_add] at h0
  unfold okOp at h0
  simp only [Bool.and_eq_true] at h0
  obtain ⟨⟨⟨⟨h1, h2⟩, h3⟩, h4⟩, h5⟩ := h0
  have h1' := List.all_eq_true.1 h1
  refine ⟨fun e he => ?_, fun j hj => ?_, fun cs b hc => ?_, fun t ht j o' hj hd => ?_, fun j o' hj hne d hd hd' => ?_⟩
  · have h6 := h1' e he
    unfold Nat.blt at h6
    exact Nat.le_of_ble_eq_true h6
  · refine maskOf_bit T j (deps o) ?_
    rw [← Nat.eq_of_beq_eq_true h2]
    exact hj
  · rw [hc] at h3; cases h3
  · have := allIdx_spec all 0 (List.all_eq_true.1 h4 t ht) j o' hj
    rw [Nat.zero_add] at this
    simp only [Bool.or_eq_true, Bool.and_eq_true, Bool.not_eq_true'] at this
    rcases this with (h6 | h6) | h6
    · unfold dstIs at h6; rw [hd] at h6; simp at h6
    · exact .inl h6
    · exact .inr h6
  · have := allIdx_spec all 0 h5 j o' hj
    rw [Nat.zero_add] at this
    simp only [Bool.or_eq_true, Bool.not_eq_true'] at this
    rcases this with h6 | h6
    · exact hne (Nat.eq_of_beq_eq_true h6)
    · unfold clash at h6; rw [hd] at h6; unfold dstIs at h6; rw [hd'] at h6; simp at h6

theorem anc_closed (h : okR P all T = true) {S : Nat → Prop} (hS : ∀ i o, all[i]? = some o → S i → ∀ e ∈ deps o, S e) :
    ∀ i o, all[i]? = some o → S i → ∀ j, has T i j = true → S j := by
  intro i
  induction i using Nat.strongRecOn with
  | _ i ih =>
    intro o hi hs j hj
    obtain ⟨e, he, hh⟩ := (fine_of h hi).anc j hj
    have hse := hS i o hi hs e he
    rcases hh with rfl | hh
    · exact hse
    · have hlt := (fine_of h hi).lt e he
      have : e < all.length := Nat.lt_trans hlt (List.getElem?_eq_some_iff.1 hi).1
      exact ih e hlt _ (List.getElem?_eq_getElem this) hse j hh

theorem anc_lt (h : okR P all T = true) : ∀ i o, all[i]? = some o → ∀ j, has T i j = true → j < i := by
  intro i
  induction i using Nat.strongRecOn with
  | _ i ih =>
    intro o hi j hj
    obtain ⟨e, he, hh⟩ := (fine_of h hi).anc j hj
    have hlt := (fine_of h hi).lt e he
    rcases hh with rfl | hh
    · exact hlt
    · have : e < all.length := Nat.lt_trans hlt (List.getElem?_eq_some_iff.1 hi).1
      exact Nat.lt_trans (ih e hlt _ (List.getElem?_eq_getElem this) j hh) hlt

/-! ### Settled operations -/

def wantE (all : List Oper) (E : Env) (g : Option (Nat × Bool)) : Bool :=
  match g with
  | none => true
  | some (j, want) => match dstOf all j with
    | some d => match E d with
      | .bool b => b == want
      | _ => false
    | none => false

theorem guardW_want {E : Env} {g : Option (Nat × Bool)} {yes no : Env → Prop} (h : guardW all n E g yes no) :
    (wantE all E g = true ∧ yes E) ∨ (wantE all E g = false ∧ no E) := by
  unfold guardW at h
  unfold wantE
  split at h
  · exact .inl ⟨rfl, h⟩
  · rename_i j want
    split at h
    · exact h.elim
    · rename_i d hj
      simp only [hj]
      split at h
      · exact h.elim
      · split at h
        · split at h
          · rename_i hb
            rw [upd_same hb] at h
            rw [hb]
            cases want <;> simp only at h
            · exact .inr ⟨rfl, h⟩
            · exact .inl ⟨rfl, h⟩
          · rename_i hb
            rw [upd_same hb] at h
            rw [hb]
            cases want <;> simp only at h
            · exact .inl ⟨rfl, h⟩
            · exact .inr ⟨rfl, h⟩
          · exact h.elim
        · split at h
          · rename_i hb
            rw [upd_same hb] at h
            rw [hb]
            cases want <;> simp only at h
            · exact .inr ⟨rfl, h⟩
            · exact .inl ⟨rfl, h⟩
          · rename_i hb
            rw [upd_same hb] at h
            rw [hb]
            cases want <;> simp only at h
            · exact .inl ⟨rfl, h⟩
            · exact .inr ⟨rfl, h⟩
          · rename_i hb
            have hb' : E d = undef := hb
            rw [upd_same hb'] at h
            rw [hb]
            exact .inr ⟨rfl, h⟩
          · exact h.elim

theorem reads_op {o : Oper} {t : Tmp} (h : Operand.tmp t ∈ o.op.operands) : t ∈ reads all o :=
  List.mem_append_left _ (List.mem_filterMap.2 ⟨.tmp t, by simpa using h, rfl⟩)

theorem reads_guard {o : Oper} {j d : Nat} {want : Bool} (hg : o.guard = some (j, want)) (hd : dstOf all j = some d) : d ∈ reads all o := by
  unfold reads
  rw [hg]
  simp [hd]

theorem wanted_of {a : Act} {E : Env} {o : Oper} (h : ∀ t ∈ reads all o, a.tmps.getD t undef = E t) :
    Region.wanted o (yielded all.toArray a.tmps) = wantE all E o.guard := by
  unfold Region.wanted wantE
  cases hg : o.guard with
  | none => rfl
  | some p =>
    obtain ⟨j, want⟩ := p
    simp only
    cases hd : dstOf all j with
    | none =>
      have : ((all.toArray)[j]?).bind (·.dst) = none := by
        unfold dstOf at hd
        simp only [List.getElem?_toArray]
        split at hd
        · rename_i o ho; rw [ho]; exact hd
        · rename_i ho; rw [ho]; rfl
      unfold yielded
      rw [this]
      simp
    | some d =>
      have h1 : ((all.toArray)[j]?).bind (·.dst) = some d := by
        unfold dstOf at hd
        simp only [List.getElem?_toArray]
        split at hd
        · rename_i o ho; rw [ho]; exact hd
        · cases hd
      have h2 := h d (reads_guard hg hd)
      unfold yielded
      rw [h1]
      simp only [Option.bind_some]
      rw [← h2]
      rw [Array.getD_eq_getD_getElem?]
      cases hx : a.tmps[d]? with
      | none => simp [undef]
      | some v => cases v <;> simp

theorem exec_of {a : Act} {E : Env} {o : Oper} (hs : ∀ cs b, o.op ≠ .select cs b) (h : ∀ t ∈ reads all o, a.tmps.getD t undef = E t) :
    execOp a.eval o = execOp (ev E) o :=
  execOp_congr o hs fun x hx => by
    cases x with
    | tmp t => exact h t (reads_op hx)
    | _ => rfl

theorem evL_congr {E E' : Env} {xs : Array Operand} (h : ∀ x ∈ xs, ev E x = ev E' x) : evL E xs = evL E' xs := by
  unfold evL
  congr 1
  exact List.map_congr_left fun x hx => h x (by simpa using hx)

theorem evP_congr {E E' : Env} {xs : Array (Nat × Operand)} (h : ∀ x ∈ xs.toList.map (·.2), ev E x = ev E' x) : evP E xs = evP E' xs := by
  unfold evP
  congr 1
  exact List.map_congr_left fun x hx => by rw [h x.2 (List.mem_map.2 ⟨x, hx, rfl⟩)]

theorem act_congr {E E' : Env} (op : Op) (ty : TypeId) (h : ∀ x ∈ op.operands, ev E x = ev E' x) : act E op ty = act E' op ty := by
  unfold act
  cases op <;> simp only [Op.operands] at h <;> simp only
  case build t ps => rw [evP_congr fun x hx => h x (by simpa using hx)]
  case buildSlice t n ps => rw [evP_congr fun x hx => h x (by simpa using hx)]
  case makeFunc fn first captured => rw [evL_congr (xs := first) fun x hx => h x (by simp [hx]), evL_congr (xs := captured) fun x hx => h x (by simp [hx])]
  case call c =>
    obtain ⟨callee, args, ats⟩ := c
    cases callee <;> simp only
    rw [evL_congr fun x hx => h x (by simp [Call.operands, hx])]
  case makeMap t r => cases r <;> simp_all [evO]
  case slice t x lo hi mx => cases lo <;> cases hi <;> cases mx <;> simp_all [evO]
  all_goals (first | rfl | (simp_all; done))

def Settled (P : Program) (n : Nat) (all : List Oper) (i : Nat) (E : Env) (w : World) : Prop :=
  ∃ o, all[i]? = some o ∧
    ((wantE all E o.guard = true ∧ ∃ s v, act E o.op o.type = some s ∧ s.run P w = .ok v w ∧ ∀ d, o.dst = some d → Nat.blt d n = true ∧ E d = v) ∨
     (wantE all E o.guard = false ∧ ∀ d, o.dst = some d → Nat.blt d n = true ∧ E d = undef))

theorem wantE_congr {E E' : Env} {o : Oper} (h : ∀ t ∈ reads all o, E' t = E t) : wantE all E' o.guard = wantE all E o.guard := by
  unfold wantE
  cases hg : o.guard with
  | none => rfl
  | some p =>
    obtain ⟨j, want⟩ := p
    simp only
    cases hd : dstOf all j with
    | none => rfl
    | some d => simp only [h d (reads_guard hg hd)]

theorem act_reads {E E' : Env} {o : Oper} (h : ∀ t ∈ reads all o, E' t = E t) : act E' o.op o.type = act E o.op o.type :=
  act_congr _ _ fun x hx => by
    cases x with
    | tmp t => exact h t (reads_op hx)
    | _ => rfl

theorem Settled.env {i : Nat} {E E' : Env} {w : World} {o : Oper} (hs : Settled P n all i E w) (ho : all[i]? = some o) (h : ∀ t ∈ reads all o, E' t = E t)
    (hd : ∀ d, o.dst = some d → E' d = E d) : Settled P n all i E' w := by
  obtain ⟨o', ho', hc⟩ := hs
  rw [ho] at ho'; injection ho' with ho'; subst ho'
  refine ⟨o, ho, ?_⟩
  rw [wantE_congr h, act_reads h]
  rcases hc with ⟨h1, s, v, h2, h3, h4⟩ | ⟨h1, h4⟩
  · exact .inl ⟨h1, s, v, h2, h3, fun d hdd => ⟨(h4 d hdd).1, by rw [hd d hdd]; exact (h4 d hdd).2⟩⟩
  · exact .inr ⟨h1, fun d hdd => ⟨(h4 d hdd).1, by rw [hd d hdd]; exact (h4 d hdd).2⟩⟩

theorem run_still {E : Env} {op : Op} {ty : TypeId} {s : Sem Value} {v : Value} {w w' : World} (hst : still op = true) (ha : act E op ty = some s) (h : s.run P w = .ok v w) : s.run P w' = .ok v w' := by
  cases op <;> simp only [still, Bool.false_eq_true] at hst <;> simp only [act, Option.some.injEq] at ha <;> subst ha
  · have h' : Result.ok _ w = Result.ok v w := h
    injection h' with h1 h2; rw [← h1]; rfl
  · unfold pickS at h ⊢
    split at h <;> simp only [Sem.run, Result.ok.injEq, reduceCtorEq] at h ⊢ <;> exact ⟨h.1, trivial⟩
  · unfold nilChk at h ⊢
    split at h <;> simp only [Sem.run, Result.ok.injEq, reduceCtorEq] at h ⊢ <;> exact ⟨h.1, trivial⟩
  · unfold Instr.extract at h ⊢
    rename_i t ix
    cases hx : ev E t <;> rw [hx] at h <;> simp only [] at h ⊢ <;> try (cases h; done)
    rename_i vs
    cases hv : vs[ix]? <;> rw [hv] at h <;> simp only [] at h ⊢ <;> try (cases h; done)
    injection (show Result.ok _ w = Result.ok v w from h) with h1 h2; rw [← h1]; rfl

theorem Settled.world {i : Nat} {E : Env} {w w' : World} {o : Oper} (hs : Settled P n all i E w) (ho : all[i]? = some o) (hst : still o.op = true) : Settled P n all i E w' := by
  obtain ⟨o', ho', hc⟩ := hs
  rw [ho] at ho'; injection ho' with ho'; subst ho'
  refine ⟨o, ho, ?_⟩
  rcases hc with ⟨h1, s, v, h2, h3, h4⟩ | ⟨h1, h4⟩
  · exact .inl ⟨h1, s, v, h2, run_still hst h2 h3, h4⟩
  · exact .inr ⟨h1, h4⟩

theorem quietOp_elim {E : Env} {op : Op} {ty : TypeId} {k : Value → Prop} {w : World} (h : quietOp P E op ty k w) : ∃ s v, act E op ty = some s ∧ s.run P w = .ok v w ∧ k v := by
  unfold quietOp at h
  split at h
  · exact ⟨_, _, rfl, rfl, h⟩
  · split at h
    · rename_i hc; exact ⟨_, _, rfl, by rw [hc]; rfl, h⟩
    · rename_i hc; exact ⟨_, _, rfl, by rw [hc]; rfl, h⟩
    · exact h.elim
  split at h
  · rename_i s hs
    unfold RunQ at h
    split at h
    · rename_i v w' hr
      obtain ⟨rfl, hk⟩ := h
      exact ⟨s, v, hs, hr, hk⟩
    · exact h.elim
  · exact h.elim

theorem putE_elim {E : Env} {dst : Option Tmp} {v : Value} {k : Env → Prop} (h : putE n E dst v k) :
    ∃ E', k E' ∧ (∀ d, dst = some d → Nat.blt d n = true ∧ E' d = v) ∧ ∀ t, dst ≠ some t → E' t = E t := by
  unfold putE at h
  split at h
  · exact ⟨E, h, (fun d hd => by cases hd), fun _ _ => rfl⟩
  · rename_i d
    split at h
    · rename_i hd
      refine ⟨_, h, fun d' hd' => ?_, fun t ht => ?_⟩
      · injection hd' with hd'; subst hd'
        exact ⟨hd, by unfold upd; rw [beq_self]⟩
      · unfold upd; rw [beq_ne (fun e => ht (by rw [e]))]
    · exact h.elim

theorem putW_mono {E : Env} {dst : Option Tmp} {k k' : Env → World → Prop} (h : ∀ E w, k E w → k' E w) {v : Value} {w : World} (hh : putW n E dst k v w) : putW n E dst k' v w := by
  unfold putW at *
  split at hh
  · exact h _ _ hh
  · rename_i d
    cases hb : Nat.blt d n <;> simp only [hb] at hh ⊢
    exact h _ _ hh

theorem Run_mono {s : Sem Value} {k k' : Cont} (h : ∀ v w, k v w → k' v w) {w : World} (hh : Run P s k w) : Run P s k' w := by
  unfold Run at *
  split at hh
  · exact h _ _ hh
  · exact hh

theorem Ret_mono {f : FuncId} {args : Array Value} {k k' : Cont} (h : ∀ v w, k v w → k' v w) {w : World} (hh : Ret P f args k w) : Ret P f args k' w := by
  unfold Ret at *
  split at hh
  · exact h _ _ hh
  · exact Calls.mono hh fun e w'' he => by cases e <;> first | exact h _ _ he | exact he
  · exact hh

theorem opW_mono {E : Env} {op : Op} {ty : TypeId} {k k' : Cont} (h : ∀ v w, k v w → k' v w) {w : World} (hh : opW P E op ty k w) : opW P E op ty k' w := by
  unfold opW at *
  split at hh
  · exact Run_mono h hh
  · split at hh
    · unfold callW at *
      split at hh
      · exact Ret_mono h hh
      · split at hh
        · exact Ret_mono h hh
        · exact hh
      · exact hh
    · exact hh

theorem guardW_mono {E : Env} {g : Option (Nat × Bool)} {yes no yes' no' : Env → Prop} (hy : ∀ E, yes E → yes' E) (hn : ∀ E, no E → no' E) (h : guardW all n E g yes no) : guardW all n E g yes' no' := by
  unfold guardW at *
  split at h
  · exact hy _ h
  · split at h
    · exact h
    · split at h
      · exact h
      · split at h
        · split at h
          · split at h
            · exact hy _ h
            · exact hn _ h
          · split at h
            · exact hn _ h
            · exact hy _ h
          · exact h
        · split at h
          · split at h
            · exact hy _ h
            · exact hn _ h
          · split at h
            · exact hn _ h
            · exact hy _ h
          · exact hn _ h
          · exact h

theorem opsW_mono {k k' : Env → World → Prop} (h : ∀ E w, k E w → k' E w) : ∀ (l : List Oper) (E : Env) (w : World), opsW P n all k l E w → opsW P n all k' l E w
  | [], E, w, hh => h E w hh
  | _ :: rest, _, _, hh => guardW_mono (fun _ hy => opW_mono (fun _ _ hv => putW_mono (opsW_mono h rest) hv) hy) (fun _ hn => putW_mono (opsW_mono h rest) hn) hh

/-! ### The quiet operations of a phase -/

theorem quietW_elim (hok : okR P all T = true) {w : World} : ∀ (is : List Nat) (E : Env) (k : Env → Prop), is.Pairwise (· < ·) →
    (∀ i ∈ is, ∀ o, all[i]? = some o → loudB P o.op = false) → quietW P n all w is E k →
    ∃ E', k E' ∧ (∀ t, (∀ i ∈ is, ∀ o, all[i]? = some o → o.dst ≠ some t) → E' t = E t) ∧ ∀ i ∈ is, Settled P n all i E' w
  | [], E, k, _, _, h => ⟨E, h, fun _ _ => rfl, fun i hi => by simp at hi⟩
  | i :: is, E, k, hp, hq, h => by
    unfold quietW at h
    split at h
    · exact h.elim
    · rename_i o ho
      have hp' := List.pairwise_cons.1 hp
      have hf := fine_of hok ho
      have later : ∀ E1 E' : Env, (∀ t, (∀ j ∈ is, ∀ o', all[j]? = some o' → o'.dst ≠ some t) → E' t = E1 t) →
          (∀ t ∈ reads all o, E' t = E1 t) ∧ ∀ d, o.dst = some d → E' d = E1 d := by
        intro E1 E' hE
        refine ⟨fun t ht => hE t fun j hj o' ho' hd => ?_, fun d hd => hE d fun j hj o' ho' => hf.dd j o' ho' (Nat.ne_of_gt (hp'.1 j hj)) d hd⟩
        rcases hf.rd t ht j o' ho' hd with h1 | h1
        · exact absurd (anc_lt hok i o ho j h1) (Nat.lt_asymm (hp'.1 j hj))
        · rw [hq j (by simp [hj]) o' ho'] at h1; exact absurd h1.1 (by simp)
      have own : ∀ t ∈ reads all o, o.dst ≠ some t := by
        intro t ht hd
        rcases hf.rd t ht i o ho hd with h1 | h1
        · exact absurd (anc_lt hok i o ho i h1) (Nat.lt_irrefl _)
        · exact absurd (anc_lt hok i o ho i h1.2) (Nat.lt_irrefl _)
      rcases guardW_want h with ⟨hw, hy⟩ | ⟨hw, hno⟩
      · obtain ⟨s, v, h1, h2, h3⟩ := quietOp_elim hy
        obtain ⟨E1, h4, h5, h6⟩ := putE_elim h3
        obtain ⟨E', h7, h8, h9⟩ := quietW_elim hok is E1 k hp'.2 (fun j hj => hq j (by simp [hj])) h4
        obtain ⟨l1, l2⟩ := later E1 E' h8
        have hr : ∀ t ∈ reads all o, E' t = E t := fun t ht => by rw [l1 t ht, h6 t (own t ht)]
        refine ⟨E', h7, fun t ht => ?_, fun j hj => ?_⟩
        · rw [h8 t fun j hj => ht j (by simp [hj]), h6 t (ht i (by simp) o ho)]
        · rcases List.mem_cons.1 hj with rfl | hj
          · refine ⟨o, ho, .inl ⟨by rw [wantE_congr hr]; exact hw, s, v, by rw [act_reads hr]; exact h1, h2, fun d hd => ⟨(h5 d hd).1, by rw [l2 d hd]; exact (h5 d hd).2⟩⟩⟩
          · exact h9 j hj
      · obtain ⟨E1, h4, h5, h6⟩ := putE_elim hno
        obtain ⟨E', h7, h8, h9⟩ := quietW_elim hok is E1 k hp'.2 (fun j hj => hq j (by simp [hj])) h4
        obtain ⟨l1, l2⟩ := later E1 E' h8
        have hr : ∀ t ∈ reads all o, E' t = E t := fun t ht => by rw [l1 t ht, h6 t (own t ht)]
        refine ⟨E', h7, fun t ht => ?_, fun j hj => ?_⟩
        · rw [h8 t fun j hj => ht j (by simp [hj]), h6 t (ht i (by simp) o ho)]
        · rcases List.mem_cons.1 hj with rfl | hj
          · exact ⟨o, ho, .inr ⟨by rw [wantE_congr hr]; exact hw, fun d hd => ⟨(h5 d hd).1, by rw [l2 d hd]; exact (h5 d hd).2⟩⟩⟩
          · exact h9 j hj

theorem drop_cons {k : Nat} {o : Oper} {l : List Oper} (h : all.drop k = o :: l) : all[k]? = some o ∧ all.drop (k + 1) = l := by
  have h1 : (all.drop k)[0]? = some o := by rw [h]; rfl
  refine ⟨by simpa using h1, ?_⟩
  have : (all.drop k).drop 1 = l := by rw [h]; rfl
  rwa [List.drop_drop] at this

structure Grown (P : Program) (all : List Oper) (A r : List Nat) : Prop where
  each : ∀ i ∈ r, ∃ o, all[i]? = some o ∧ loudB P o.op = false ∧ i ∉ A ∧ ∀ e ∈ deps o, e ∈ A ∨ e ∈ r
  full : ∀ i o, all[i]? = some o → loudB P o.op = false → (∀ e ∈ deps o, e ∈ A ∨ e ∈ r) → i ∈ A ∨ i ∈ r
  sorted : r.Pairwise (· < ·)

theorem grow_spec (hok : okR P all T = true) (A : List Nat) : ∀ (l : List Oper) (k : Nat) (new : List Nat), all.drop k = l → (∀ i ∈ new, i < k) → new.Pairwise (· < ·) →
    (∀ i ∈ new, ∃ o, all[i]? = some o ∧ loudB P o.op = false ∧ i ∉ A ∧ ∀ e ∈ deps o, e ∈ A ∨ e ∈ new) →
    (∀ i o, i < k → all[i]? = some o → loudB P o.op = false → (∀ e ∈ deps o, e ∈ A ∨ e ∈ new) → i ∈ A ∨ i ∈ new) →
    Grown P all A (grow P A k l new) ∧ (∀ i ∈ new, i ∈ grow P A k l new) ∧ ∀ i ∈ grow P A k l new, i ∈ new ∨ k ≤ i := by
  intro l
  induction l with
  | nil =>
    intro k new hl hlt hs he hf
    have hk : all.length ≤ k := by
      have := congrArg List.length hl
      simp at this
      omega
    refine ⟨⟨he, fun i o ho => hf i o (Nat.lt_of_lt_of_le (List.getElem?_eq_some_iff.1 ho).1 hk) ho, hs⟩, fun _ h => h, fun _ h => .inl h⟩
  | cons o l ih =>
    intro k new hl hlt hs he hf
    obtain ⟨ho, hl'⟩ := drop_cons hl
    have hfk := fine_of hok ho
    unfold grow
    split
    · rename_i hc
      have key := ih (k + 1) new hl' (fun i hi => Nat.lt_succ_of_lt (hlt i hi)) hs he (fun i o' hi ho' hq hd => by
        by_cases hik : i = k
        · subst hik
          rw [ho] at ho'; injection ho' with ho'; subst ho'
          simp only [Bool.or_eq_true, Bool.not_eq_true', List.all_eq_false] at hc
          rcases hc with (hc | hc) | ⟨e, he', hc⟩
          · exact .inl (by simpa using hc)
          · rw [hq] at hc; cases hc
          · simp only [List.contains_iff_mem] at hc
            exact absurd (hd e he') hc
        · exact hf i o' (by omega) ho' hq hd)
      exact ⟨key.1, key.2.1, fun i hi => (key.2.2 i hi).imp id (fun h => by omega)⟩
    · rename_i hc
      simp only [Bool.or_eq_false_iff, Bool.not_eq_false', List.all_eq_true] at hc
      obtain ⟨⟨hc1, hc2⟩, hc3⟩ := hc
      have hc3' : ∀ e ∈ deps o, e ∈ A ∨ e ∈ new := fun e he' => by simpa using hc3 e he'
      have key := ih (k + 1) (new ++ [k]) hl' (fun i hi => by
          rcases List.mem_append.1 hi with h | h
          · exact Nat.lt_succ_of_lt (hlt i h)
          · simp at h; omega)
        (List.pairwise_append.2 ⟨hs, by simp, fun a ha b hb => by simp at hb; subst hb; exact hlt a ha⟩)
        (fun i hi => by
          rcases List.mem_append.1 hi with h | h
          · obtain ⟨o', h1, h2, h3, h4⟩ := he i h
            exact ⟨o', h1, h2, h3, fun e hh => (h4 e hh).imp id (fun h => List.mem_append_left _ h)⟩
          · simp at h; subst h
            exact ⟨o, ho, hc2, by simpa using hc1, fun e hh => (hc3' e hh).imp id (fun h => List.mem_append_left _ h)⟩)
        (fun i o' hi ho' hq hd => by
          by_cases hik : i = k
          · subst hik; exact .inr (by simp)
          · have hi' : i < k := by omega
            refine (hf i o' hi' ho' hq fun e hh => ?_).imp id (fun h => List.mem_append_left _ h)
            rcases hd e hh with h | h
            · exact .inl h
            · rcases List.mem_append.1 h with h | h
              · exact .inr h
              · simp at h
                have := (fine_of hok ho').lt e hh
                omega)
      refine ⟨key.1, fun i hi => key.2.1 i (List.mem_append_left _ hi), fun i hi => ?_⟩
      rcases key.2.2 i hi with h | h
      · rcases List.mem_append.1 h with h | h
        · exact .inl h
        · simp at h; exact .inr (by omega)
      · exact .inr (by omega)

theorem readyL_mem (A : List Nat) : ∀ (l : List Oper) (k : Nat), all.drop k = l → ∀ i o, k ≤ i → all[i]? = some o → loudB P o.op = true → i ∉ A → (∀ e ∈ deps o, e ∈ A) → i ∈ readyL P A k l
  | [], k, hl, i, o, hk, ho, _, _, _ => by
    have : all.length ≤ k := by
      have := congrArg List.length hl
      simp at this
      omega
    have := (List.getElem?_eq_some_iff.1 ho).1
    omega
  | x :: l, k, hl, i, o, hk, ho, h1, h2, h3 => by
    obtain ⟨hx, hl'⟩ := drop_cons hl
    unfold readyL
    by_cases hik : i = k
    · subst hik
      rw [ho] at hx; injection hx with hx; subst hx
      have : (loudB P o.op && !(A.contains i) && (deps o).all fun e => A.contains e) = true := by
        simp only [Bool.and_eq_true, Bool.not_eq_true', List.all_eq_true]
        exact ⟨⟨h1, by simpa using h2⟩, fun e he => by simpa using h3 e he⟩
      rw [this]
      simp
    · have := readyL_mem A l (k + 1) hl' i o (by omega) ho h1 h2 h3
      split
      · exact List.mem_cons_of_mem _ this
      · exact this

theorem readyL_nil (A : List Nat) : ∀ (l : List Oper) (k : Nat), all.drop k = l → (∀ i o, all[i]? = some o → loudB P o.op = true → i ∈ A) → readyL P A k l = []
  | [], _, _, _ => rfl
  | x :: l, k, hl, h => by
    obtain ⟨hx, hl'⟩ := drop_cons hl
    unfold readyL
    have : (loudB P x.op && !(A.contains k) && (deps x).all fun e => A.contains e) = false := by
      cases hb : loudB P x.op
      · rfl
      · have := h k x hx hb
        simp [this]
    rw [this]
    exact readyL_nil A l (k + 1) hl' h

theorem floats_mem (l : Nat) (D A : List Nat) : ∀ (L : List Oper) (k : Nat), all.drop k = L → ∀ i o, k ≤ i → all[i]? = some o → i ∈ A → loudB P o.op = false → still o.op = false →
    has T l i = false → (∀ j ∈ D, has T j i = false) → i ∈ floats P T l D A k L
  | [], k, hl, i, o, hk, ho, _, _, _, _, _ => by
    have : all.length ≤ k := by
      have := congrArg List.length hl
      simp at this
      omega
    have := (List.getElem?_eq_some_iff.1 ho).1
    omega
  | x :: L, k, hl, i, o, hk, ho, h1, h2, h3, h4, h5 => by
    obtain ⟨hx, hl'⟩ := drop_cons hl
    unfold floats
    by_cases hik : i = k
    · subst hik
      rw [ho] at hx; injection hx with hx; subst hx
      have : (A.contains i && !(loudB P o.op) && !(still o.op) && !(has T l i || D.any fun j => has T j i)) = true := by
        simp only [Bool.and_eq_true, Bool.not_eq_true', Bool.or_eq_false_iff, List.any_eq_false]
        exact ⟨⟨⟨by simpa using h1, h2⟩, h3⟩, h4, fun j hj => by simp [h5 j hj]⟩
      rw [this]
      simp
    · have := floats_mem l D A L (k + 1) hl' i o (by omega) ho h1 h2 h3 h4 h5
      split
      · exact List.mem_cons_of_mem _ this
      · exact this

theorem loudsW_mem {X : Nat → Prop} : ∀ (ls : List Nat), loudsW X ls → ∀ l ∈ ls, X l
  | [], _, l, hl => by simp at hl
  | [x], h, l, hl => by simp at hl; subst hl; exact h
  | x :: y :: ls, h, l, hl => by
    rcases List.mem_cons.1 hl with rfl | hl
    · exact h.1
    · exact loudsW_mem (y :: ls) h.2 l hl

theorem stayW_elim {E : Env} {w : World} {rest : Prop} : ∀ is : List Nat, stayW P n all E w rest is → rest ∧ ∀ i ∈ is, ∀ o, all[i]? = some o →
    guardW all n E o.guard (fun E => quietOp P E o.op o.type (isDst E o.dst) w) (fun _ => True)
  | [], h => ⟨h, fun i hi => by simp at hi⟩
  | i :: is, h => by
    unfold stayW at h
    split at h
    · exact h.elim
    · rename_i o ho
      obtain ⟨h1, h2⟩ := stayW_elim is h.2
      refine ⟨h1, fun j hj o' ho' => ?_⟩
      rcases List.mem_cons.1 hj with rfl | hj
      · rw [ho] at ho'; injection ho' with ho'; subst ho'; exact h.1
      · exact h2 j hj o' ho'

/-! ### Every order -/

structure Inv (P : Program) (n : Nat) (all : List Oper) (listed : Array Bool) (a : Act) (w : World) (D A : List Nat) (E : Env) : Prop where
  sz : listed.size = all.length
  tn : a.tmps.size = n
  df : a.defers = []
  dA : ∀ i ∈ D, i < all.length ∧ listed.getD i true = true
  qA : ∀ i, i < all.length → listed.getD i true = true → i ∈ A
  aA : ∀ i o, all[i]? = some o → loudB P o.op = true → (i ∈ A ↔ listed.getD i true = true)
  down : ∀ i o, all[i]? = some o → listed.getD i true = true → ∀ e ∈ deps o, listed.getD e true = true
  downA : ∀ i o, all[i]? = some o → i ∈ A → ∀ e ∈ deps o, e ∈ A
  env : ∀ t, (∀ i o, all[i]? = some o → i ∈ A → listed.getD i true = false → o.dst ≠ some t) → a.tmps.getD t undef = E t
  set : ∀ i ∈ A, i < all.length → listed.getD i true = false → Settled P n all i E w

structure Full (P : Program) (all : List Oper) (A : List Nat) : Prop where
  full : ∀ i o, all[i]? = some o → loudB P o.op = false → (∀ e ∈ deps o, e ∈ A) → i ∈ A

/-- What is read is what the environment says, where nothing that is to come writes it. -/
theorem Inv.reads_ok (hok : okR P all T = true) {listed : Array Bool} {a : Act} {w : World} {D A : List Nat} {E : Env} (h : Inv P n all listed a w D A E)
    (hq : ∀ i ∈ A, ∀ o, all[i]? = some o → loudB P o.op = true → listed.getD i true = true)
    {i : Nat} {o : Oper} (ho : all[i]? = some o) (hd : ∀ e ∈ deps o, listed.getD e true = true) : ∀ t ∈ reads all o, a.tmps.getD t undef = E t := by
  intro t ht
  refine h.env t fun j o' ho' hj hun hdst => ?_
  rcases (fine_of hok ho).rd t ht j o' ho' hdst with h1 | ⟨h1, _⟩
  · have : listed.getD j true = true := by
      obtain ⟨e, he, hh⟩ := (fine_of hok ho).anc j h1
      rcases hh with rfl | hh
      · exact hd e he
      · have hlt : e < all.length := Nat.lt_trans ((fine_of hok ho).lt e he) (List.getElem?_eq_some_iff.1 ho).1
        exact anc_closed hok (S := fun i => listed.getD i true = true) h.down e _ (List.getElem?_eq_getElem hlt) (hd e he) j hh
    rw [this] at hun; cases hun
  · have := hq j hj o' ho' h1
    rw [this] at hun; cases hun

theorem getD_set {listed : Array Bool} {i j : Nat} (hi : i < listed.size) : (listed.setIfInBounds i true).getD j true = if j = i then true else listed.getD j true := by
  by_cases hj : j = i
  · subst hj; simp [Array.getD]
  · simp only [if_neg hj, Array.getD_eq_getD_getElem?]
    rw [Array.getElem?_setIfInBounds_ne (Ne.symm hj)]

theorem put_tmps {a : Act} {dst : Option Tmp} {v : Value} : (a.put dst v).tmps.size = a.tmps.size ∧ (a.put dst v).defers = a.defers ∧ (∀ t, dst ≠ some t → (a.put dst v).tmps.getD t undef = a.tmps.getD t undef) ∧
    ∀ d, dst = some d → d < a.tmps.size → (a.put dst v).tmps.getD d undef = v := by
  cases dst with
  | none => exact ⟨rfl, rfl, fun _ _ => rfl, fun d hd => by cases hd⟩
  | some d =>
    refine ⟨by simp [Act.put], rfl, fun t ht => ?_, fun d' hd' hlt => ?_⟩
    · simp only [Act.put, Array.getD_eq_getD_getElem?]
      rw [Array.getElem?_setIfInBounds_ne (fun e => ht (by rw [e]))]
    · injection hd' with hd'; subst hd'
      simp [Act.put, Array.getD, hlt]

theorem blt_lt {d n : Nat} (h : Nat.blt d n = true) : d < n := by
  unfold Nat.blt at h
  exact Nat.le_of_ble_eq_true h

/-- A quiet operation is carried out. -/
theorem Inv.quiet (hok : okR P all T = true) {listed : Array Bool} {a : Act} {w : World} {D A : List Nat} {E : Env} (h : Inv P n all listed a w D A E)
    {i : Nat} {o : Oper} (ho : all[i]? = some o) (hi : i ∈ A) (hb : loudB P o.op = false) (hun : listed.getD i true = false) (hd : ∀ e ∈ deps o, listed.getD e true = true) {v : Value}
    (hv : ∀ d, o.dst = some d → Nat.blt d n = true ∧ E d = v) : Inv P n all (listed.setIfInBounds i true) (a.put o.dst v) w D A E := by
  have hil : i < listed.size := by rw [h.sz]; exact (List.getElem?_eq_some_iff.1 ho).1
  have hf := fine_of hok ho
  obtain ⟨p1, p2, p3, p4⟩ := put_tmps (a := a) (dst := o.dst) (v := v)
  refine ⟨by simp [h.sz], by rw [p1, h.tn], by rw [p2, h.df], fun j hj => ⟨(h.dA j hj).1, ?_⟩, fun j hjl hj => ?_, fun j o' ho' hb' => ?_, fun j o' ho' hj e he => ?_, h.downA, fun t ht => ?_, fun j hj hlt hju => ?_⟩
  · rw [getD_set hil, (h.dA j hj).2]; simp
  · rw [getD_set hil] at hj
    by_cases hji : j = i
    · rw [hji]; exact hi
    · rw [if_neg hji] at hj; exact h.qA j hjl hj
  · rw [getD_set hil]
    by_cases hji : j = i
    · subst hji; rw [ho] at ho'; injection ho' with ho'; subst ho'; rw [hb] at hb'; cases hb'
    · rw [if_neg hji]; exact h.aA j o' ho' hb'
  · rw [getD_set hil] at hj ⊢
    by_cases hei : e = i
    · rw [if_pos hei]
    · rw [if_neg hei]
      by_cases hji : j = i
      · subst hji; rw [ho] at ho'; injection ho' with ho'; subst ho'; exact hd e he
      · rw [if_neg hji] at hj; exact h.down j o' ho' hj e he
  · by_cases hdt : o.dst = some t
    · obtain ⟨h1, h2⟩ := hv t hdt
      rw [p4 t hdt (by rw [h.tn]; exact blt_lt h1), h2]
    · rw [p3 t hdt]
      refine h.env t fun j o' ho' hj hju => ?_
      by_cases hji : j = i
      · subst hji; rw [ho] at ho'; injection ho' with ho'; subst ho'; exact hdt
      · exact ht j o' ho' hj (by rw [getD_set hil, if_neg hji]; exact hju)
  · rw [getD_set hil] at hju
    by_cases hji : j = i
    · rw [if_pos hji] at hju; cases hju
    · rw [if_neg hji] at hju; exact h.set j hj hlt hju

/-- What stays settled when a loud operation is carried out. -/
theorem Inv.loud (hok : okR P all T = true) {listed : Array Bool} {a : Act} {w w' : World} {D A : List Nat} {E E' : Env} (h : Inv P n all listed a w D A E)
    (hq : ∀ i ∈ A, ∀ o, all[i]? = some o → loudB P o.op = true → listed.getD i true = true)
    {i : Nat} {o : Oper} (ho : all[i]? = some o) (hb : loudB P o.op = true) (hun : listed.getD i true = false) (hd : ∀ e ∈ deps o, listed.getD e true = true) (hdA : ∀ e ∈ deps o, e ∈ A) {v : Value}
    (hE : (∀ d, o.dst = some d → Nat.blt d n = true ∧ E' d = v) ∧ ∀ t, o.dst ≠ some t → E' t = E t)
    (hst : w' = w ∨ ∀ j ∈ floats P T i D A 0 all, ∀ o', all[j]? = some o' → guardW all n E' o'.guard (fun E => quietOp P E o'.op o'.type (isDst E o'.dst) w') (fun _ => True)) :
    Inv P n all (listed.setIfInBounds i true) (a.put o.dst v) w' (i :: D) (i :: A) E' := by
  have hia : i ∉ A := fun hi => by
    have := hq i hi o ho hb
    rw [this] at hun; cases hun
  have hlt := (List.getElem?_eq_some_iff.1 ho).1
  have hil : i < listed.size := by rw [h.sz]; exact hlt
  have hf := fine_of hok ho
  obtain ⟨p1, p2, p3, p4⟩ := put_tmps (a := a) (dst := o.dst) (v := v)
  refine ⟨by simp [h.sz], by rw [p1, h.tn], by rw [p2, h.df], fun j hj => ?_, fun j hjl hj => ?_, fun j o' ho' hb' => ?_, fun j o' ho' hj e he => ?_, fun j o' ho' hj e he => ?_, fun t ht => ?_, fun j hj hjl hju => ?_⟩
  · rw [getD_set hil]
    rcases List.mem_cons.1 hj with rfl | hj
    · exact ⟨hlt, by simp⟩
    · exact ⟨(h.dA j hj).1, by rw [(h.dA j hj).2]; simp⟩
  · rw [getD_set hil] at hj
    by_cases hji : j = i
    · rw [hji]; exact List.mem_cons_self
    · rw [if_neg hji] at hj; exact List.mem_cons_of_mem _ (h.qA j hjl hj)
  · rw [getD_set hil]
    by_cases hji : j = i
    · subst hji; simp
    · rw [if_neg hji, List.mem_cons]
      simp only [hji, false_or]
      exact h.aA j o' ho' hb'
  · rw [getD_set hil] at hj ⊢
    by_cases hei : e = i
    · rw [if_pos hei]
    · rw [if_neg hei]
      by_cases hji : j = i
      · subst hji; rw [ho] at ho'; injection ho' with ho'; subst ho'; exact hd e he
      · rw [if_neg hji] at hj; exact h.down j o' ho' hj e he
  · rcases List.mem_cons.1 hj with rfl | hj
    · rw [ho] at ho'; injection ho' with ho'; subst ho'; exact List.mem_cons_of_mem _ (hdA e he)
    · exact List.mem_cons_of_mem _ (h.downA j o' ho' hj e he)
  · by_cases hdt : o.dst = some t
    · obtain ⟨h1, h2⟩ := hE.1 t hdt
      rw [p4 t hdt (by rw [h.tn]; exact blt_lt h1), h2]
    · rw [p3 t hdt, hE.2 t hdt]
      refine h.env t fun j o' ho' hj hju => ?_
      have hji : j ≠ i := fun e => hia (e ▸ hj)
      exact ht j o' ho' (List.mem_cons_of_mem _ hj) (by rw [getD_set hil, if_neg hji]; exact hju)
  · rw [getD_set hil] at hju
    have hji : j ≠ i := by
      intro e
      rw [if_pos e] at hju; cases hju
    rw [if_neg hji] at hju
    have hjA : j ∈ A := by
      rcases List.mem_cons.1 hj with e | hj
      · exact absurd e hji
      · exact hj
    have hold := h.set j hjA hjl hju
    have hoj := List.getElem?_eq_getElem hjl
    have hfj := fine_of hok hoj
    have hjq : loudB P (all[j]).op = false := by
      cases hb' : loudB P (all[j]).op with
      | false => rfl
      | true => have := hq j hjA _ hoj hb'; rw [this] at hju; cases hju
    have hnanc : ∀ x o'', all[x]? = some o'' → (∀ e ∈ deps o'', listed.getD e true = true) → has T x j = false := by
      intro x o'' hx hdx
      cases hh : has T x j with
      | false => rfl
      | true =>
        obtain ⟨e, he, hh⟩ := (fine_of hok hx).anc j hh
        have : listed.getD j true = true := by
          rcases hh with rfl | hh
          · exact hdx e he
          · have hle : e < all.length := Nat.lt_trans ((fine_of hok hx).lt e he) (List.getElem?_eq_some_iff.1 hx).1
            exact anc_closed hok (S := fun i => listed.getD i true = true) h.down e _ (List.getElem?_eq_getElem hle) (hdx e he) j hh
        rw [this] at hju; cases hju
    have hrd : ∀ t ∈ reads all (all[j]), E' t = E t := by
      intro t ht
      refine hE.2 t fun hdt => ?_
      rcases hfj.rd t ht i o ho hdt with h1 | ⟨_, h1⟩
      · exact hia (anc_closed hok (S := fun i => i ∈ A) h.downA j _ hoj hjA i h1)
      · rw [hnanc i o ho hd] at h1; cases h1
    have hdst : ∀ d, (all[j]).dst = some d → E' d = E d := fun d hd' => hE.2 d fun hdt => hfj.dd i o ho (Ne.symm hji) d hd' hdt
    have hsame := hold.env hoj hrd hdst
    rcases hst with rfl | hst
    · exact hsame
    · cases hs : still (all[j]).op with
      | true => exact hsame.world hoj hs
      | false =>
        have hfl := floats_mem (P := P) (T := T) i D A all 0 rfl j _ (Nat.zero_le _) hoj hjA hjq hs (hnanc i o ho hd) (fun x hx => by
          obtain ⟨hxl, hxx⟩ := h.dA x hx
          exact hnanc x _ (List.getElem?_eq_getElem hxl) (h.down x _ (List.getElem?_eq_getElem hxl) hxx))
        have hg := hst j hfl _ hoj
        obtain ⟨o'', ho'', hc⟩ := hsame
        rw [hoj] at ho''; injection ho'' with ho''; subst ho''
        refine ⟨_, hoj, ?_⟩
        rcases guardW_want hg with ⟨hw, hy⟩ | ⟨hw, _⟩
        · rcases hc with ⟨_, s, u, _, _, h4⟩ | ⟨h1, _⟩
          · obtain ⟨s', u', h5, h6, h7⟩ := quietOp_elim hy
            refine .inl ⟨hw, s', u', h5, h6, fun d hd' => ⟨(h4 d hd').1, ?_⟩⟩
            unfold isDst at h7
            rw [hd'] at h7
            exact h7.symm
          · rw [hw] at h1; cases h1
        · rcases hc with ⟨h1, _⟩ | ⟨_, h4⟩
          · rw [hw] at h1; cases h1
          · exact .inr ⟨hw, h4⟩

def left (N : Nat) (listed : Array Bool) : Nat := ((List.range N).filter fun i => !listed.getD i true).length

theorem filter_lt {p q : Nat → Bool} (hpq : ∀ i, q i = true → p i = true) : ∀ (l : List Nat) (x : Nat), x ∈ l → p x = true → q x = false → (l.filter q).length < (l.filter p).length
  | [], x, h, _, _ => by simp at h
  | y :: l, x, h, hp, hq => by
    have hle : (l.filter q).length ≤ (l.filter p).length := by
      clear h
      induction l with
      | nil => simp
      | cons z l ih =>
        simp only [List.filter_cons]
        cases hz : q z with
        | false => cases p z <;> simp <;> omega
        | true => rw [hpq z hz]; simp; omega
    rcases List.mem_cons.1 h with rfl | h
    · simp only [List.filter_cons, hp, hq]; simp; omega
    · have := filter_lt hpq l x h hp hq
      simp only [List.filter_cons]
      cases hz : q y with
      | false => cases p y <;> simp <;> omega
      | true => rw [hpq y hz]; simp; omega

theorem left_set {listed : Array Bool} {i : Nat} (hi : i < listed.size) (hun : listed.getD i true = false) : left listed.size (listed.setIfInBounds i true) < left listed.size listed := by
  refine filter_lt (fun j hj => ?_) _ i (by simp [hi]) (by simp [hun]) (by rw [getD_set hi]; simp)
  rw [getD_set hi] at hj
  by_cases hji : j = i
  · rw [if_pos hji] at hj; cases hj
  · rw [if_neg hji] at hj; exact hj

theorem deps_mem {o : Oper} {e : Nat} : e ∈ deps o ↔ ∃ x ∈ o.after, Region.binds .any x = true ∧ x.on = e := by
  have key : ∀ l : List Edge, e ∈ depsGo l ↔ ∃ x ∈ l, Region.binds .any x = true ∧ x.on = e := by
    intro l
    induction l with
    | nil => simp [depsGo]
    | cons x l ih =>
      unfold depsGo
      cases hb : Region.binds .any x with
      | true =>
        simp only [List.mem_cons, ih]
        constructor
        · rintro (rfl | ⟨y, h1, h2⟩)
          · exact ⟨x, .inl rfl, hb, rfl⟩
          · exact ⟨y, .inr h1, h2⟩
        · rintro ⟨y, rfl | h1, h2, h3⟩
          · exact .inl h3.symm
          · exact .inr ⟨y, h1, h2, h3⟩
      | false =>
        simp only [List.mem_cons, ih]
        constructor
        · rintro ⟨y, h1, h2⟩
          exact ⟨y, .inr h1, h2⟩
        · rintro ⟨y, rfl | h1, h2, h3⟩
          · rw [hb] at h2; cases h2
          · exact ⟨y, h1, h2, h3⟩
  unfold deps
  rw [key]
  simp

theorem ready_iff {listed : Array Bool} {i : Nat} (hok : okR P all T = true) : i ∈ Region.ready .any all.toArray listed ↔
    ∃ o, all[i]? = some o ∧ listed.getD i true = false ∧ ∀ e ∈ deps o, listed.getD e true = true := by
  unfold Region.ready
  simp only [List.mem_filter, List.mem_range, List.size_toArray, Bool.and_eq_true, Bool.not_eq_true', List.getElem?_toArray]
  constructor
  · rintro ⟨hlt, h1, h2⟩
    have ho := List.getElem?_eq_getElem hlt
    refine ⟨_, ho, h1, fun e he => ?_⟩
    rw [ho] at h2
    simp only [Option.map_some, Option.getD_some, Array.all_eq_true_iff_forall_mem, Bool.or_eq_true, Bool.not_eq_true'] at h2
    obtain ⟨x, hx, hb, rfl⟩ := deps_mem.1 he
    rcases h2 x hx with h3 | h3
    · rw [hb] at h3; cases h3
    · have : x.on < listed.size ∨ listed.size ≤ x.on := Nat.lt_or_ge _ _
      rcases this with h4 | h4
      · simp only [Array.getD, h4, dite_true] at h3 ⊢; exact h3
      · simp only [Array.getD, Nat.not_lt.2 h4, dite_false] at h3; cases h3
  · rintro ⟨o, ho, h1, h2⟩
    have hlt := (List.getElem?_eq_some_iff.1 ho).1
    refine ⟨hlt, h1, ?_⟩
    rw [ho]
    simp only [Option.map_some, Option.getD_some, Array.all_eq_true_iff_forall_mem, Bool.or_eq_true, Bool.not_eq_true']
    intro x hx
    cases hb : Region.binds .any x with
    | false => exact .inl rfl
    | true =>
    right
    have hm : x.on ∈ deps o := deps_mem.2 ⟨x, hx, hb, rfl⟩
    have h3 := h2 x.on hm
    have hlt' : x.on < i := (fine_of hok ho).lt _ hm
    by_cases h4 : x.on < listed.size
    · simp only [Array.getD, h4, dite_true] at h3 ⊢; exact h3
    · exfalso
      have h5 : listed.getD i true = true := by
        simp [Array.getD, show ¬ i < listed.size from by omega]
      rw [h1] at h5; cases h5

theorem ready_nil {listed : Array Bool} (hok : okR P all T = true) (h : Region.ready .any all.toArray listed = []) : ∀ i, i < all.length → listed.getD i true = true := by
  intro i
  induction i using Nat.strongRecOn with
  | _ i ih =>
    intro hi
    cases hl : listed.getD i true with
    | true => rfl
    | false =>
      have ho := List.getElem?_eq_getElem hi
      have : i ∈ Region.ready .any all.toArray listed := (ready_iff hok).2 ⟨_, ho, hl, fun e he => ih e ((fine_of hok ho).lt e he) (Nat.lt_trans ((fine_of hok ho).lt e he) hi)⟩
      rw [h] at this; simp at this

def After (P : Program) (n : Nat) (all : List Oper) (T : List Nat) (k : Env → World → Prop) (D A : List Nat) (E : Env) (w : World) : Prop :=
  ∃ fuel, match readyL P A 0 all with
    | [] => k E w
    | l :: ls => loudsW (fun l => match all[l]? with
        | none => False
        | some o => guardW all n E o.guard
            (fun E => opW P E o.op o.type (putW n E o.dst (fun E w' =>
              stayW P n all E w' (drawW P n all T k fuel (l :: D) (l :: A) E w')
                (match isAssign o.op with | true => [] | false => floats P T l D A 0 all))) w)
            (fun E => putW n E o.dst (fun E w' => drawW P n all T k fuel (l :: D) (l :: A) E w') undef w)) (l :: ls)

/-- The quiet operations of a phase are settled. -/
theorem enter (hok : okR P all T = true) {k : Env → World → Prop} {fuel : Nat} {listed : Array Bool} {a : Act} {w : World} {D A : List Nat} {E : Env} (h : Inv P n all listed a w D A E)
    (hd : drawW P n all T k fuel D A E w) : ∃ A' E', Inv P n all listed a w D A' E' ∧ Full P all A' ∧ After P n all T k D A' E' w := by
  cases fuel with
  | zero => exact hd.elim
  | succ fuel =>
    unfold drawW at hd
    obtain ⟨hg, hg2, hg3⟩ := grow_spec hok A all 0 [] rfl (by simp) (by simp) (by simp) (fun i o hi => absurd hi (Nat.not_lt_zero _))
    obtain ⟨E', hk, hE, hS⟩ := quietW_elim hok _ E _ hg.sorted (fun i hi o ho => by
      obtain ⟨o', h1, h2, _⟩ := hg.each i hi
      rw [ho] at h1; injection h1 with h1; subst h1; exact h2) hd
    have hunl : ∀ i ∈ grow P A 0 all [], listed.getD i true = false := by
      intro i hi
      obtain ⟨o, h1, _, h3, _⟩ := hg.each i hi
      cases hl : listed.getD i true with
      | false => rfl
      | true => exact absurd (h.qA i (List.getElem?_eq_some_iff.1 h1).1 hl) h3
    refine ⟨A ++ grow P A 0 all [], E', ⟨h.sz, h.tn, h.df, h.dA, fun i hi hl => List.mem_append_left _ (h.qA i hi hl), fun i o ho hb => ?_, h.down, fun i o ho hi e he => ?_, fun t ht => ?_, fun i hi hil hu => ?_⟩, ⟨fun i o ho hb hdep => ?_⟩, ⟨fuel, hk⟩⟩
    · rw [List.mem_append, ← h.aA i o ho hb]
      refine ⟨fun hh => hh.resolve_right fun hh => ?_, .inl⟩
      obtain ⟨o', h1, h2, _⟩ := hg.each i hh
      rw [ho] at h1; injection h1 with h1; subst h1
      rw [hb] at h2; cases h2
    · rcases List.mem_append.1 hi with hi | hi
      · exact List.mem_append_left _ (h.downA i o ho hi e he)
      · obtain ⟨o', h1, h2, h3, h4⟩ := hg.each i hi
        rw [ho] at h1; injection h1 with h1; subst h1
        exact List.mem_append.2 (h4 e he)
    · rw [hE t fun i hi o ho => ht i o ho (List.mem_append_right _ hi) (hunl i hi)]
      exact h.env t fun i o ho hi hu => ht i o ho (List.mem_append_left _ hi) hu
    · rcases List.mem_append.1 hi with hi | hi
      · have ho := List.getElem?_eq_getElem hil
        refine (h.set i hi hil hu).env ho (fun t ht => hE t fun j hj o' ho' hd => ?_) (fun d hd => hE d fun j hj o' ho' => ?_)
        · obtain ⟨o'', h1, h2, h3, h4⟩ := hg.each j hj
          rw [ho'] at h1; injection h1 with h1; subst h1
          rcases (fine_of hok ho).rd t ht j o' ho' hd with h5 | ⟨h5, _⟩
          · exact h3 (anc_closed hok (S := fun i => i ∈ A) h.downA i _ ho hi j h5)
          · rw [h2] at h5; cases h5
        · obtain ⟨o'', h1, h2, h3, h4⟩ := hg.each j hj
          exact (fine_of hok ho).dd j o' ho' (fun e => h3 (e ▸ hi)) d hd
      · exact hS i hi
    · exact List.mem_append.2 (hg.full i o ho hb fun e he => List.mem_append.1 (hdep e he))

theorem opW_assign {E : Env} {op : Op} {ty : TypeId} {k : Cont} {w : World} (ha : isAssign op = true) (h : opW P E op ty k w) : opW P E op ty (fun v w' => w' = w ∧ k v w') w := by
  cases op <;> simp only [isAssign, Bool.false_eq_true] at ha
  exact ⟨rfl, h⟩

theorem putW_elim {E : Env} {dst : Option Tmp} {v : Value} {w : World} {k : Env → World → Prop} (h : putW n E dst k v w) :
    ∃ E', k E' w ∧ (∀ d, dst = some d → Nat.blt d n = true ∧ E' d = v) ∧ ∀ t, dst ≠ some t → E' t = E t := by
  unfold putW at h
  split at h
  · exact ⟨E, h, (fun d hd => by cases hd), fun _ _ => rfl⟩
  · rename_i d
    split at h
    · rename_i hd
      refine ⟨_, h, fun d' hd' => ?_, fun t ht => ?_⟩
      · injection hd' with hd'; subst hd'
        exact ⟨hd, by unfold upd; rw [beq_self]⟩
      · unfold upd; rw [beq_ne (fun e => ht (by rw [e]))]
    · exact h.elim

theorem any_of_inv (hok : okR P all T = true) {k : Env → World → Prop} {Q : Exit → Env → World → Prop} (hkQ : ∀ E w, k E w → Q .normal E w) : ∀ (fuel : Nat) (listed : Array Bool) (a : Act) (w : World) (D A : List Nat) (E : Env),
    left listed.size listed ≤ fuel → Inv P n all listed a w D A E → Full P all A → After P n all T k D A E w → wpAny P .any all.toArray (Lift n Q) fuel listed a w := by
  have done : ∀ (listed : Array Bool) (a : Act) (w : World) (D A : List Nat) (E : Env), Inv P n all listed a w D A E → After P n all T k D A E w →
      Region.ready .any all.toArray listed = [] → Lift n Q .normal a w := by
    intro listed a w D A E h hA hr
    have hl := ready_nil hok hr
    obtain ⟨fuel, hA⟩ := hA
    rw [readyL_nil A all 0 rfl fun i o ho hb => h.qA i (List.getElem?_eq_some_iff.1 ho).1 (hl i (List.getElem?_eq_some_iff.1 ho).1)] at hA
    exact ⟨E, ⟨h.tn, h.df, fun t => h.env t fun i o ho hi hu => by
      rw [hl i (List.getElem?_eq_some_iff.1 ho).1] at hu; cases hu⟩, hkQ _ _ hA⟩
  intro fuel
  induction fuel with
  | zero =>
    intro listed a w D A E hfuel h hF hA
    have hr : Region.ready .any all.toArray listed = [] := by
      cases hr : Region.ready .any all.toArray listed with
      | nil => rfl
      | cons i rest =>
        have hi : i ∈ Region.ready .any all.toArray listed := by rw [hr]; simp
        obtain ⟨o, ho, hu, _⟩ := (ready_iff hok).1 hi
        have := left_set (by rw [h.sz]; exact (List.getElem?_eq_some_iff.1 ho).1) hu
        omega
    exact ⟨hr, done _ _ _ _ _ _ h hA hr⟩
  | succ fuel ih =>
    intro listed a w D A E hfuel h hF hA
    refine ⟨done _ _ _ _ _ _ h hA, fun i hi => ?_⟩
    obtain ⟨o, ho, hu, hd⟩ := (ready_iff hok).1 hi
    have hlt := (List.getElem?_eq_some_iff.1 ho).1
    have hil : i < listed.size := by rw [h.sz]; exact hlt
    have hfu : left (listed.setIfInBounds i true).size (listed.setIfInBounds i true) ≤ fuel := by
      have := left_set hil hu
      rw [Array.size_setIfInBounds]
      omega
    have hq : ∀ i ∈ A, ∀ o, all[i]? = some o → loudB P o.op = true → listed.getD i true = true := fun i hi o ho hb => (h.aA i o ho hb).1 hi
    have hdl : ∀ e ∈ deps o, e < all.length := fun e he => Nat.lt_trans ((fine_of hok ho).lt e he) hlt
    have hdA : ∀ e ∈ deps o, e ∈ A := fun e he => h.qA e (hdl e he) (hd e he)
    have hrd := h.reads_ok hok hq ho hd
    have hex : execOp a.eval o = execOp (ev E) o := exec_of (all := all) (fine_of hok ho).sel hrd
    have hwt := wanted_of (all := all) hrd
    unfold wpOp
    simp only [List.getElem?_toArray, ho]
    rw [hwt]
    cases hb : loudB P o.op with
    | false =>
      have hiA := hF.full i o ho hb hdA
      obtain ⟨o', ho', hc⟩ := h.set i hiA hlt hu
      rw [ho] at ho'; injection ho' with ho'; subst ho'
      rcases hc with ⟨h1, s, v, h2, h3, h4⟩ | ⟨h1, h4⟩
      · rw [if_pos h1]
        left
        unfold Oper.wp
        rw [hex]
        exact upon_of_gives (act_ok h2 h3) (ih _ _ _ _ _ _ hfu (h.quiet hok ho hiA hb hu hd h4) hF hA)
      · rw [if_neg (by simp [h1])]
        exact ih _ _ _ _ _ _ hfu (h.quiet hok ho hiA hb hu hd h4) hF hA
    | true =>
      have hiA : i ∉ A := fun hh => by rw [hq i hh o ho hb] at hu; cases hu
      obtain ⟨f, hA⟩ := hA
      have hmem := readyL_mem (P := P) A all 0 rfl i o (Nat.zero_le _) ho hb hiA hdA
      split at hA
      · rename_i hnil; rw [hnil] at hmem; simp at hmem
      · rename_i l ls hls
        rw [hls] at hmem
        have hX := loudsW_mem _ hA i hmem
        simp only [ho] at hX
        rcases guardW_want hX with ⟨h1, h2⟩ | ⟨h1, h2⟩
        · rw [if_pos h1]
          left
          cases ha : isAssign o.op with
          | true =>
            simp only [ha] at h2
            refine opW_sound' hex (opW_assign ha h2) fun v w' hv => ?_
            obtain ⟨rfl, hv⟩ := hv
            obtain ⟨E', h3, h4⟩ := putW_elim hv
            obtain ⟨h5, _⟩ := stayW_elim _ h3
            obtain ⟨A', E'', i1, i2, i3⟩ := enter hok (h.loud hok hq ho hb hu hd hdA h4 (.inl rfl)) h5
            exact ih _ _ _ _ _ _ hfu i1 i2 i3
          | false =>
            simp only [ha] at h2
            refine opW_sound' hex h2 fun v w' hv => ?_
            obtain ⟨E', h3, h4⟩ := putW_elim hv
            obtain ⟨h5, h6⟩ := stayW_elim _ h3
            obtain ⟨A', E'', i1, i2, i3⟩ := enter hok (h.loud hok hq ho hb hu hd hdA h4 (.inr h6)) h5
            exact ih _ _ _ _ _ _ hfu i1 i2 i3
        · rw [if_neg (by simp [h1])]
          obtain ⟨E', h3, h4⟩ := putW_elim h2
          obtain ⟨A', E'', i1, i2, i3⟩ := enter hok (h.loud hok hq ho hb hu hd hdA h4 (.inl rfl)) h3
          exact ih _ _ _ _ _ _ hfu i1 i2 i3

theorem region_sound (hm : P.follows .mixedOrders = true) {id : Nat} {draw : Bool} {k : Env → World → Prop} {Q : Exit → Env → World → Prop} (hkQ : ∀ E w, k E w → Q .normal E w) {E : Env} {a : Act} {w : World} (hE : Agrees n E a)
    (h : regionW P n all draw k E w) : (Code.region id all.toArray draw).wp P (Lift n Q) a w := by
  unfold regionW at h
  split at h
  · refine wp_region_lit ?_
    refine opsW_sound all E a w hE ?_
    exact opsW_mono hkQ all E w h
  · split at h
    · rename_i hok
      refine wp_region_any hm ?_
      have hinit : Inv P n all (Array.replicate all.toArray.size false) a { w with drawn := w.drawn + 1 } [] [] E := by
        have hun : ∀ i, i < all.length → (Array.replicate all.toArray.size false).getD i true = false := fun i hi => by simp [Array.getD, hi]
        exact ⟨by simp, hE.1, hE.2.1, (fun i hi => by simp at hi), (fun i hi hl => by rw [hun i hi] at hl; cases hl), (fun i o ho _ => by rw [hun i (List.getElem?_eq_some_iff.1 ho).1]; simp),
          (fun i o ho hl => by rw [hun i (List.getElem?_eq_some_iff.1 ho).1] at hl; cases hl), (fun i o ho hi => by simp at hi), (fun t _ => hE.2.2 t), (fun i hi => by simp at hi)⟩
      obtain ⟨A', E', i1, i2, i3⟩ := enter hok hinit h
      refine any_of_inv hok hkQ _ _ _ _ _ _ _ ?_ i1 i2 i3
      unfold left
      exact Nat.le_trans (List.length_filter_le _ _) (by simp)
    · exact h.elim

end
end Go.Dc
