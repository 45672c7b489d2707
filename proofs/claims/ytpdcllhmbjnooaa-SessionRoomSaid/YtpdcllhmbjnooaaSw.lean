/- A structural weakest precondition over an environment of temporaries, and that it is sound for the model's runs. -/
import Derived.Orders
import Derived.Tactics
import Derived.KernelRfl
namespace Go.Dc

abbrev Env := Nat → Value
abbrev Cont := Value → World → Prop

def upd (E : Env) (d : Nat) (v : Value) : Env := fun t => match Nat.beq t d with | true => v | false => E t

def ev (E : Env) : Operand → Value
  | .tmp t => E t
  | .const v => v
  | .global g => .pointer (some ⟨g, 0, none⟩)
  | .func f => .func (.func f) #[] #[]

def Run (P : Program) (s : Sem Value) (k : Cont) (w : World) : Prop :=
  match s.run P w with
  | .ok v w' => k v w'
  | .halt _ _ => False

def RetPost (Q : Cont) : Ending → World → Prop
  | .returned v, w => Q v w
  | _, _ => False

def Ret (P : Program) (f : FuncId) (args : Array Value) (k : Cont) (w : World) : Prop :=
  match (callFunc f args).run P w with
  | .ok (.value v) w' => k v w'
  | .ok (.enter g as) w' => Calls P g as w' (RetPost k)
  | _ => False

def unitS (s : Sem Unit) : Sem Value := s.bind fun _ => .pure undef

def nilChk (v : Value) : Sem Value :=
  match v with
  | .pointer (some a) => .pure (.pointer (some a))
  | .func (.func f) x y => .pure (.func (.func f) x y)
  | _ => .halt (.stuck "nil")

def pickS (c a b : Value) : Sem Value :=
  match c with
  | .bool true => .pure a
  | .bool false => .pure b
  | _ => .halt (.stuck "pick")

def binS (op : BinOp) (t : TypeId) (a b : Value) : Sem Value :=
  match a, b with
  | .nilIface, .nilIface => .halt (.stuck "two nil interfaces")
  | _, _ => do eqGuard op t (.tmp 0) (.tmp 0) a b; binOp op t a b

def evL (E : Env) (xs : Array Operand) : Array Value := (xs.toList.map (ev E)).toArray
def evP (E : Env) (xs : Array (Nat × Operand)) : Array (Nat × Value) := (xs.toList.map fun p => (p.1, ev E p.2)).toArray
def evO (E : Env) : Option Operand → Option Value
  | none => none
  | some x => some (ev E x)

def builtinS (b : Builtin) (ats : Array TypeId) (ty : TypeId) (args : Array Value) : Option (Sem Value) :=
  match b with
  | .append => some (Builtin.append_ ats ty args)
  | .cap => some (Builtin.cap_ ats ty args)
  | .clear => some (Builtin.clear_ ats ty args)
  | .copy => some (Builtin.copy_ ats ty args)
  | .delete => some (Builtin.delete_ ats ty args)
  | .len => some (Builtin.len_ ats ty args)
  | .max => some (Builtin.max_ ats ty args)
  | .min => some (Builtin.min_ ats ty args)
  | _ => none

/-- What an operation that is no call does. -/
def act (E : Env) (op : Op) (ty : TypeId) : Option (Sem Value) :=
  match op with
  | .move x => some (.pure (ev E x))
  | .assign x => some (.pure (ev E x))
  | .pick c a b => some (pickS (ev E c) (ev E a) (ev E b))
  | .alloc elem => some (Instr.alloc elem true (.tuple #[]))
  | .box elem x => some (Instr.box elem (ev E x))
  | .build t ps => some (Instr.build t (evP E ps))
  | .buildSlice t n ps => some (Instr.buildSlice t n (evP E ps))
  | .load t a => some (Instr.loadAt t (ev E a))
  | .store t a x => some (unitS (Instr.storeAt t (ev E a) (ev E x)))
  | .nilCheck x => some (nilChk (ev E x))
  | .binOp o t x y _ => some (binS o t (ev E x) (ev E y))
  | .unOp o _ x => some (Op.unary o (ev E x))
  | .convert s d x => some (convert s d (ev E x))
  | .sliceToArrayPointer d x => some (Instr.arrayAt d (ev E x))
  | .makeInterface t x => some (Instr.makeInterface t (ev E x))
  | .makeFunc fn fs cs => some (Instr.makeFunc fn (evL E fs) (evL E cs))
  | .makeMap t r => some (Instr.makeMap t (evO E r))
  | .makeSlice t l c => some (Instr.makeSlice t (ev E l) (ev E c))
  | .slice t x lo hi mx => some (Instr.sliceAt t (ev E x) (evO E lo) (evO E hi) (evO E mx))
  | .fieldAddr s x f => some (Instr.fieldAt s (ev E x) f)
  | .field t x f => some (Instr.field t (ev E x) f)
  | .indexAddr t x i => some (Instr.indexAt t (ev E x) (ev E i))
  | .index t x i => some (Instr.index t (ev E x) (ev E i))
  | .lookup t x i ok => some (Instr.lookup t (ev E x) (ev E i) ok)
  | .mapUpdate t m k x => some (unitS (Instr.mapUpdate t (ev E m) (ev E k) (ev E x)))
  | .insert t m k x => some (unitS (Instr.mapUpdate t (ev E m) (ev E k) (ev E x)))
  | .mapEntry t m k => some (Instr.mapEntry t (ev E m) (ev E k))
  | .entryStore t m s x => some (unitS (Instr.entryStore t (ev E m) (ev E s) (ev E x)))
  | .range t x => some (Instr.range t (ev E x))
  | .next it s => some (Instr.next (ev E it) s ty)
  | .entry it => some (Instr.entry (ev E it))
  | .typeAssert x t u ok => some (Instr.typeAssert (ev E x) t u ok)
  | .extract t i => some (Instr.extract (ev E t) i)
  | .call c => match c.callee with
    | .builtin b => builtinS b c.argTypes ty (evL E c.args)
    | _ => none
  | _ => none

/-- A call of a Go function: by its name, or of a function value. -/
def callW (P : Program) (E : Env) (c : Call) (k : Cont) (w : World) : Prop :=
  match c.callee with
  | .value (.func f) => Ret P f (evL E c.args) k w
  | .value x => match ev E x with
    | .func (.func f) fs cs => Ret P f (fs ++ evL E c.args ++ cs) k w
    | _ => False
  | _ => False

def opW (P : Program) (E : Env) (op : Op) (ty : TypeId) (k : Cont) (w : World) : Prop :=
  match act E op ty with
  | some s => Run P s k w
  | none => match op with
    | .call c => callW P E c k w
    | _ => False

def putW (n : Nat) (E : Env) (dst : Option Tmp) (k : Env → World → Prop) : Cont := fun v w =>
  match dst with
  | none => k E w
  | some d => match Nat.blt d n with
    | true => k (upd E d v) w
    | false => False

def dstOf (ops : List Oper) (j : Nat) : Option Tmp :=
  match ops[j]? with
  | some o => o.dst
  | none => none

/-- Is the operation itself a guarded one (so that its value may be missing)? -/
def guarded (ops : List Oper) (j : Nat) : Bool :=
  match ops[j]? with
  | some o => match o.guard with
    | some _ => true
    | none => false
  | none => false
/-- A guarded operation: what the guard says is known behind it. -/
def guardW (ops : List Oper) (n : Nat) (E : Env) (g : Option (Nat × Bool)) (yes no : Env → Prop) : Prop :=
  match g with
  | none => yes E
  | some (j, want) => match dstOf ops j with
    | none => False
    | some d => match Nat.blt d n with
      | false => False
      | true => match guarded ops j with
        | false => match E d with
          | .bool true => match want with
            | true => yes (upd E d (.bool true))
            | false => no (upd E d (.bool true))
          | .bool false => match want with
            | true => no (upd E d (.bool false))
            | false => yes (upd E d (.bool false))
          | _ => False
        | true => match E d with
          | .bool true => match want with
            | true => yes (upd E d (.bool true))
            | false => no (upd E d (.bool true))
          | .bool false => match want with
            | true => no (upd E d (.bool false))
            | false => yes (upd E d (.bool false))
          | .tuple ⟨[]⟩ => no (upd E d undef)
          | _ => False

def opsW (P : Program) (n : Nat) (all : List Oper) (k : Env → World → Prop) : List Oper → Env → World → Prop
  | [], E, w => k E w
  | o :: rest, E, w => guardW all n E o.guard
      (fun E => opW P E o.op o.type (putW n E o.dst (opsW P n all k rest)) w)
      (fun E => putW n E o.dst (opsW P n all k rest) undef w)

def afterThen (next : Env → World → Prop) (Q : Exit → Env → World → Prop) : Exit → Env → World → Prop
  | .normal, E, w => next E w
  | e, E, w => Q e E w

def inBlk (id : Nat) (Q : Exit → Env → World → Prop) : Exit → Env → World → Prop
  | .exit id', E, w => match Nat.beq id' id with
    | true => Q .normal E w
    | false => Q (.exit id') E w
  | e, E, w => Q e E w

def loopPost (I : Env → World → Prop) (m : Env → World → Nat) (Q : Exit → Env → World → Prop) (E0 : Env) (w0 : World) : Exit → Env → World → Prop
  | .normal, E, w => I E w ∧ m E w < m E0 w0
  | e, E, w => Q e E w

def Agrees (n : Nat) (E : Env) (a : Act) : Prop := a.tmps.size = n ∧ a.defers = [] ∧ ∀ t, a.tmps.getD t undef = E t

/-! ### Soundness of one operation -/

theorem eval_ev {n : Nat} {E : Env} {a : Act} (h : Agrees n E a) : a.eval = ev E := by
  funext x
  cases x with
  | tmp t => exact h.2.2 t
  | _ => rfl

theorem run_bind {α β : Type} (P : Program) (s : Sem α) (f : α → Sem β) (w : World) :
    (s.bind f).run P w = match s.run P w with
      | .ok v w' => (f v).run P w'
      | .halt h w' => .halt h w' := by
  induction s generalizing w with
  | pure a => rfl
  | load m a k ih =>
    simp only [Sem.bind, Sem.run]
    cases w.cell? a with
    | some v => exact ih v w
    | none => cases w.farLoad P a (m == .atomic) with
      | ok r => exact ih r.1 w
      | error h => rfl
  | store m a v k ih =>
    cases v <;> simp only [Sem.bind, Sem.run] <;>
      first
        | rfl
        | (cases w.cell? a with
          | some _ => (simp only []; split <;> first | rfl | exact ih _)
          | none => cases w.farStore P a _ (m == .atomic) with
            | ok r => exact ih r.1
            | error h => rfl)
  | new o k ih => simp only [Sem.bind, Sem.run]; exact ih _ _
  | shape r k ih => simp only [Sem.bind, Sem.run]; exact ih _ _
  | freeze a n k ih => simp only [Sem.bind, Sem.run]; exact ih _
  | frozen a k ih => simp only [Sem.bind, Sem.run]; exact ih _ _
  | getObj r k ih =>
    simp only [Sem.bind, Sem.run]
    cases w.heap[r]? with
    | none => rfl
    | some o => cases o <;> first | rfl | exact ih _ _
  | setObj r o k ih =>
    simp only [Sem.bind, Sem.run]
    cases w.heap[r]? with
    | none => rfl
    | some o => cases o <;> first | rfl | exact ih _
  | choose q k ih =>
    simp only [Sem.bind, Sem.run]
    split <;> exact ih _ _
  | sys c k ih => simp only [Sem.bind, Sem.run]; exact ih _ _
  | program k ih => simp only [Sem.bind, Sem.run]; exact ih _ _
  | mark m k ih => simp only [Sem.bind, Sem.run]; exact ih _
  | halt h => rfl

theorem bind_eq {α β : Type} (s : Sem α) (f : α → Sem β) : (s >>= f) = s.bind f := rfl

/-- What the frame makes of an operation's outcome. -/
def Gives (P : Program) (s : Sem Next) (w : World) (v : Value) (w' : World) : Prop :=
  s.run P w = .ok (.value v) w' ∨ (s.run P w = .ok .skip w' ∧ v = undef)

theorem gives_v {P : Program} {s : Sem Value} {w w' : World} {v : Value} (h : s.run P w = .ok v w') :
    Gives P (do pure (.value (← s))) w v w' := .inl (by
  show (s.bind _).run P w = _
  rw [run_bind, h]; rfl)

theorem gives_u {P : Program} {s : Sem Unit} {w w' : World} {v : Value} (h : (unitS s).run P w = .ok v w') :
    Gives P (do s; pure .skip) w v w' := .inr (by
  unfold unitS at h
  rw [run_bind] at h
  show (s.bind _).run P w = _ ∧ _
  rw [run_bind]
  generalize s.run P w = r at *
  cases r with
  | ok u w1 => simp only [Sem.run] at h; injection h with h1 h2; subst h1; subst h2; exact ⟨rfl, rfl⟩
  | halt _ _ => cases h)

theorem toArray_map {α β : Type} (f : α → β) (xs : Array α) : (xs.toList.map f).toArray = xs.map f := by
  apply Array.ext'
  simp

theorem evL_eq (E : Env) (xs : Array Operand) : evL E xs = xs.map (ev E) := toArray_map _ _
theorem evP_eq (E : Env) (xs : Array (Nat × Operand)) : evP E xs = xs.map fun (i, x) => (i, ev E x) := toArray_map _ _
theorem evO_eq (E : Env) (x : Option Operand) : evO E x = x.map (ev E) := by cases x <;> rfl

theorem eqGuard_ok {P : Program} {op : BinOp} {t : TypeId} {x y : Operand} {a b : Value} {w w' : World} {v : Value}
    (h : (binS op t a b).run P w = .ok v w') : (do eqGuard op t x y a b; binOp op t a b : Sem Value).run P w = .ok v w' := by
  unfold binS at h
  split at h
  · cases h
  · rename_i hne
    rw [← h]
    have : eqGuard op t x y a b = eqGuard op t (.tmp 0) (.tmp 0) a b := by
      cases a <;> cases b <;> first | rfl | exact absurd rfl (fun h => hne rfl h)
    rw [this]

theorem act_ok {P : Program} {E : Env} {o : Oper} {s : Sem Value} {w w' : World} {v : Value}
    (ha : act E o.op o.type = some s) (h : s.run P w = .ok v w') : Gives P (execOp (ev E) o) w v w' := by
  obtain ⟨dst, op, ty, pos, after, guard⟩ := o
  simp only at ha
  unfold act at ha
  cases op <;> simp only [Option.some.injEq, reduceCtorEq] at ha
  case move x => subst ha; simp only [Sem.run] at h; injection h with h1 h2; subst h1; subst h2; exact .inl rfl
  case assign x => subst ha; simp only [Sem.run] at h; injection h with h1 h2; subst h1; subst h2; exact .inl rfl
  case pick c a b =>
    subst ha
    show Gives P (do pure (.value (if ← asBool (ev E c) then ev E a else ev E b))) w v w'
    unfold pickS at h
    split at h
    · rename_i hc; rw [hc]; simp only [Sem.run] at h; injection h with h1 h2; subst h1; subst h2; exact .inl rfl
    · rename_i hc; rw [hc]; simp only [Sem.run] at h; injection h with h1 h2; subst h1; subst h2; exact .inl rfl
    · cases h
  case build t ps => subst ha; rw [evP_eq] at h; exact gives_v h
  case buildSlice t n ps => subst ha; rw [evP_eq] at h; exact gives_v h
  case store t a x => subst ha; exact gives_u h
  case mapUpdate t m k x => subst ha; exact gives_u h
  case insert t m k x => subst ha; exact gives_u h
  case entryStore t m s x => subst ha; exact gives_u h
  case nilCheck x =>
    subst ha
    unfold nilChk at h
    split at h
    · rename_i a hx
      simp only [Sem.run] at h; injection h with h1 h2; subst h1; subst h2
      refine .inl ?_
      simp only [execOp, hx]; rfl
    · rename_i f y z hx
      simp only [Sem.run] at h; injection h with h1 h2; subst h1; subst h2
      refine .inl ?_
      simp only [execOp, hx]; rfl
    · cases h
  case binOp o t x y _ => subst ha; exact gives_v (eqGuard_ok h)
  case makeFunc fn fs cs => subst ha; rw [evL_eq, evL_eq] at h; exact gives_v h
  case makeMap t r => subst ha; rw [evO_eq] at h; exact gives_v h
  case slice t x lo hi mx => subst ha; rw [evO_eq, evO_eq, evO_eq] at h; exact gives_v h
  case call c =>
    obtain ⟨callee, args, ats⟩ := c
    cases callee <;> simp only [reduceCtorEq] at ha
    rename_i b
    rw [evL_eq] at ha
    unfold builtinS at ha
    cases b <;> simp only [Option.some.injEq, reduceCtorEq] at ha <;> (subst ha; exact gives_v h)
  all_goals (subst ha; exact gives_v h)

theorem upon_of_gives {P : Program} {o : Oper} {a : Act} {next : Act → World → Prop} {Q : Exit → Act → World → Prop} {s : Sem Next} {w w' : World} {v : Value}
    (h : Gives P s w v w') (hn : next (a.put o.dst v) w') : o.upon P a next Q (s.run P w) := by
  rcases h with h | ⟨h, rfl⟩ <;> rw [h] <;> exact hn

theorem ret_upon {P : Program} {o : Oper} {a : Act} {next : Act → World → Prop} {Q : Exit → Act → World → Prop} {f : FuncId} {args : Array Value} {k : Cont} {w : World}
    (h : Ret P f args k w) (hk : ∀ v w', k v w' → next (a.put o.dst v) w') : o.upon P a next Q ((callFunc f args).run P w) := by
  unfold Ret at h
  generalize (callFunc f args).run P w = r at *
  split at h
  · exact hk _ _ h
  · exact Calls.mono h fun e w'' he => by
      cases e with
      | returned v => exact hk _ _ he
      | _ => exact he.elim
  · exact h.elim

theorem call_exec (E : Env) (dst : Option Tmp) (x : Operand) (args : Array Operand) (ats : Array TypeId) (ty : TypeId) (pos : String) (after : Array Edge) (guard : Option (Nat × Bool))
    (f : FuncId) (fs cs : Array Value) (hx : ev E x = .func (.func f) fs cs) :
    execOp (ev E) ⟨dst, .call ⟨.value x, args, ats⟩, ty, pos, after, guard⟩ = callFunc f (fs ++ evL E args ++ cs) := by
  rw [evL_eq]
  show (do let d ← resolve (ev E) ⟨.value x, args, ats⟩ ty; invoke d.target d.args) = _
  unfold resolve
  simp only [hx]
  rfl

theorem opW_sound' {P : Program} {E : Env} {a : Act} {o : Oper} {k : Cont} {next : Act → World → Prop} {Q : Exit → Act → World → Prop} {w : World}
    (hE : execOp a.eval o = execOp (ev E) o) (h : opW P E o.op o.type k w) (hk : ∀ v w', k v w' → next (a.put o.dst v) w') : o.wp P a w next Q := by
  unfold Oper.wp
  rw [hE]
  unfold opW at h
  split at h
  · rename_i s hs
    unfold Run at h
    split at h
    · rename_i v w' hr
      exact upon_of_gives (act_ok hs hr) (hk _ _ h)
    · exact h.elim
  · split at h
    · rename_i c hc
      obtain ⟨dst, op, ty, pos, after, guard⟩ := o
      simp only at hc h hk
      subst hc
      obtain ⟨callee, args, ats⟩ := c
      unfold callW at h
      cases callee with
      | value x =>
        by_cases hf : ∃ f, x = .func f
        · obtain ⟨f, rfl⟩ := hf
          simp only at h
          rw [call_exec E dst (.func f) args ats ty pos after guard f #[] #[] rfl]
          simp only [Array.append_empty, Array.empty_append]
          exact ret_upon h hk
        · have h' : (match ev E x with | .func (.func f) fs cs => Ret P f (fs ++ evL E args ++ cs) k w | _ => False) := by
            cases x <;> first | exact h | exact absurd ⟨_, rfl⟩ hf
          split at h'
          · rename_i f fs cs hx
            rw [call_exec E dst x args ats ty pos after guard f fs cs hx]
            exact ret_upon h' hk
          · exact h'.elim
      | _ => exact h.elim
    · exact h.elim

theorem opW_sound {P : Program} {n : Nat} {E : Env} {a : Act} {o : Oper} {k : Cont} {next : Act → World → Prop} {Q : Exit → Act → World → Prop} {w : World}
    (hE : Agrees n E a) (h : opW P E o.op o.type k w) (hk : ∀ v w', k v w' → next (a.put o.dst v) w') : o.wp P a w next Q :=
  opW_sound' (by rw [eval_ev hE]) h hk

/-! ### Environments -/

theorem beq_self (d : Nat) : Nat.beq d d = true := Nat.beq_refl d
theorem beq_ne {t d : Nat} (h : t ≠ d) : Nat.beq t d = false := by
  cases hb : Nat.beq t d with
  | true => exact absurd (Nat.eq_of_beq_eq_true hb) h
  | false => rfl

theorem agrees_put {n : Nat} {E : Env} {a : Act} {d : Nat} {v : Value} (h : Agrees n E a) (hd : Nat.blt d n = true) : Agrees n (upd E d v) (a.put (some d) v) := by
  have hlt : d < n := by
    have := hd
    unfold Nat.blt at this
    exact Nat.le_of_ble_eq_true this
  refine ⟨by simp [Act.put, h.1], by simp [Act.put, h.2.1], fun t => ?_⟩
  by_cases ht : t = d
  · subst ht
    simp [Act.put, upd, Array.getD, h.1, hlt]
  · have := h.2.2 t
    simp only [upd, beq_ne ht]
    rw [← this]
    simp only [Act.put, Array.getD_eq_getD_getElem?]
    rw [Array.getElem?_setIfInBounds_ne (Ne.symm ht)]

theorem putW_ok {n : Nat} {E : Env} {a : Act} {dst : Option Tmp} {k : Env → World → Prop} {v : Value} {w : World} (hE : Agrees n E a) (h : putW n E dst k v w) :
    ∃ E', Agrees n E' (a.put dst v) ∧ k E' w := by
  unfold putW at h
  split at h
  · exact ⟨E, hE, h⟩
  · split at h
    · rename_i d hd
      exact ⟨_, agrees_put hE hd, h⟩
    · exact h.elim

theorem upd_same {E : Env} {d : Nat} {v : Value} (h : E d = v) : upd E d v = E := by
  funext t
  unfold upd
  by_cases ht : t = d
  · subst ht; simp [h]
  · simp [beq_ne ht]

theorem yielded_eq {n : Nat} {E : Env} {a : Act} {ops : List Oper} {j d : Nat} (hE : Agrees n E a) (hj : dstOf ops j = some d) (hd : Nat.blt d n = true) (b : Bool) (hb : E d = .bool b) :
    yielded ops.toArray a.tmps j = some b := by
  have hlt : d < a.tmps.size := by
    rw [hE.1]
    unfold Nat.blt at hd
    exact Nat.le_of_ble_eq_true hd
  have h1 : ((ops.toArray)[j]?).bind (·.dst) = some d := by
    unfold dstOf at hj
    simp only [List.getElem?_toArray]
    split at hj
    · rename_i o ho; rw [ho]; exact hj
    · cases hj
  have h2 : a.tmps[d]? = some (.bool b) := by
    have := hE.2.2 d
    rw [hb] at this
    rw [Array.getElem?_eq_getElem hlt]
    congr 1
    simpa [Array.getD, hlt] using this
  unfold yielded
  rw [h1]
  simp only [Option.bind_some, h2]

theorem yielded_none {n : Nat} {E : Env} {a : Act} {ops : List Oper} {j d : Nat} (hE : Agrees n E a) (hj : dstOf ops j = some d) (hb : E d = undef) :
    yielded ops.toArray a.tmps j = none := by
  have h1 : ((ops.toArray)[j]?).bind (·.dst) = some d := by
    unfold dstOf at hj
    simp only [List.getElem?_toArray]
    split at hj
    · rename_i o ho; rw [ho]; exact hj
    · cases hj
  have h2 : a.tmps[d]? = none ∨ a.tmps[d]? = some undef := by
    have := hE.2.2 d
    rw [hb] at this
    by_cases hlt : d < a.tmps.size
    · right
      rw [Array.getElem?_eq_getElem hlt]
      congr 1
      simpa [Array.getD, hlt] using this
    · left
      exact Array.getElem?_eq_none (by omega)
  unfold yielded
  rw [h1]
  simp only [Option.bind_some]
  rcases h2 with h2 | h2 <;> rw [h2] <;> rfl

theorem guardW_ok {n : Nat} {E : Env} {a : Act} {ops : List Oper} {o : Oper} {yes no : Env → Prop} (hE : Agrees n E a) (h : guardW ops n E o.guard yes no) :
    (Region.wanted o (yielded ops.toArray a.tmps) = true ∧ yes E) ∨ (Region.wanted o (yielded ops.toArray a.tmps) = false ∧ no E) := by
  unfold guardW at h
  unfold Region.wanted
  split at h
  · rename_i hg; rw [hg]; exact .inl ⟨rfl, h⟩
  · rename_i j want hg
    rw [hg]
    split at h
    · exact h.elim
    · rename_i d hj
      split at h
      · exact h.elim
      · rename_i hd
        split at h
        · split at h
          · rename_i hb
            have hy := yielded_eq hE hj hd true hb
            rw [upd_same hb] at h
            simp only [hy]
            cases want <;> simp only at h
            · exact .inr ⟨by decide, h⟩
            · exact .inl ⟨by decide, h⟩
          · rename_i hb
            have hy := yielded_eq hE hj hd false hb
            rw [upd_same hb] at h
            simp only [hy]
            cases want <;> simp only at h
            · exact .inl ⟨by decide, h⟩
            · exact .inr ⟨by decide, h⟩
          · exact h.elim
        · split at h
          · rename_i hb
            have hy := yielded_eq hE hj hd true hb
            rw [upd_same hb] at h
            simp only [hy]
            cases want <;> simp only at h
            · exact .inr ⟨by decide, h⟩
            · exact .inl ⟨by decide, h⟩
          · rename_i hb
            have hy := yielded_eq hE hj hd false hb
            rw [upd_same hb] at h
            simp only [hy]
            cases want <;> simp only at h
            · exact .inl ⟨by decide, h⟩
            · exact .inr ⟨by decide, h⟩
          · rename_i hb
            have hb' : E d = undef := hb
            have hy := yielded_none hE hj hb'
            rw [upd_same hb'] at h
            simp only [hy]
            exact .inr ⟨by cases want <;> decide, h⟩
          · exact h.elim

def Lift (n : Nat) (Q : Exit → Env → World → Prop) : Exit → Act → World → Prop := fun e a w => ∃ E, Agrees n E a ∧ Q e E w

theorem opsW_sound {P : Program} {n : Nat} {all : List Oper} {Q : Exit → Env → World → Prop} : ∀ (l : List Oper) (E : Env) (a : Act) (w : World), Agrees n E a →
    opsW P n all (fun E w => Q .normal E w) l E w → wpList P all.toArray (Lift n Q) l a w := by
  intro l
  induction l with
  | nil => exact fun E a w hE h => wpList_nil ⟨E, hE, h⟩
  | cons o rest ih =>
    intro E a w hE h
    refine wpList_step fun K hK => ?_
    rcases guardW_ok hE h with ⟨hw, hy⟩ | ⟨hw, hno⟩
    · rw [if_pos hw]
      exact opW_sound hE hy fun v w' hv => hK _ _ (let ⟨E', h1, h2⟩ := putW_ok hE hv; ih E' _ _ h1 h2)
    · rw [if_neg (by simp [hw])]
      exact hK _ _ (let ⟨E', h1, h2⟩ := putW_ok hE hno; ih E' _ _ h1 h2)

/-! ### Regions whose order is drawn -/

def RunQ (P : Program) (s : Sem Value) (k : Value → Prop) (w : World) : Prop :=
  match s.run P w with
  | .ok v w' => w' = w ∧ k v
  | .halt _ _ => False

def loudB (P : Program) : Op → Bool
  | .move _ | .pick .. | .build .. | .load .. | .nilCheck _ | .binOp .. | .unOp .. | .makeInterface .. | .makeFunc .. | .slice .. | .fieldAddr .. | .field ..
  | .indexAddr .. | .index .. | .lookup .. | .typeAssert .. | .extract .. => false
  | .convert _ d _ => match P.underlying d with
    | some (.int _) => false
    | _ => true
  | .call c => match c.callee with
    | .builtin .len | .builtin .cap | .builtin .max | .builtin .min => false
    | _ => true
  | _ => true

def still : Op → Bool
  | .move _ | .pick .. | .nilCheck _ | .extract .. => true
  | _ => false

def isAssign : Op → Bool
  | .assign _ => true
  | _ => false

def notSelect : Op → Bool
  | .select .. => false
  | _ => true

def depsGo : List Edge → List Nat
  | [] => []
  | e :: es => match Region.binds .any e with
    | true => e.on :: depsGo es
    | false => depsGo es

/-- What must have come before (the edges that bind in every mode). -/
def deps (o : Oper) : List Nat := depsGo o.after.toList

def maskOf (T : List Nat) : List Nat → Nat
  | [] => 0
  | e :: es => Nat.lor (Nat.lor (Nat.pow 2 e) (T.getD e 0)) (maskOf T es)

def ancGo : List Oper → List Nat → List Nat
  | [], acc => acc
  | o :: rest, acc => ancGo rest (acc ++ [maskOf acc (deps o)])

def has (T : List Nat) (i j : Nat) : Bool := (T.getD i 0).testBit j

def reads (all : List Oper) (o : Oper) : List Tmp :=
  (o.op.operands.toList.filterMap fun | .tmp t => some t | _ => none) ++
  (match o.guard with
   | some (g, _) => (dstOf all g).toList
   | none => [])

def allIdx (p : Oper → Nat → Bool) : Nat → List Oper → Bool
  | _, [] => true
  | i, o :: rest => p o i && allIdx p (i + 1) rest

def dstIs (o : Oper) (t : Tmp) : Bool :=
  match o.dst with
  | some d => Nat.beq d t
  | none => false

def clash (o o' : Oper) : Bool :=
  match o.dst with
  | some d => dstIs o' d
  | none => false

def okOp (P : Program) (all : List Oper) (T : List Nat) (o : Oper) (i : Nat) : Bool :=
  ((deps o).all fun e => Nat.blt e i) &&
  Nat.beq (T.getD i 0) (maskOf T (deps o)) &&
  notSelect o.op &&
  ((reads all o).all fun t => allIdx (fun o' j => !(dstIs o' t) || has T i j || (loudB P o'.op && has T j i)) 0 all) &&
  allIdx (fun o' j => Nat.beq j i || !(clash o o')) 0 all

def okR (P : Program) (all : List Oper) (T : List Nat) : Bool := allIdx (okOp P all T) 0 all

/-- The quiet operations that may come next, in the order of the text. -/
def grow (P : Program) (A : List Nat) : Nat → List Oper → List Nat → List Nat
  | _, [], new => new
  | i, o :: rest, new => match (A.contains i || loudB P o.op || !((deps o).all fun e => A.contains e || new.contains e)) with
    | true => grow P A (i + 1) rest new
    | false => grow P A (i + 1) rest (new ++ [i])

def readyL (P : Program) (A : List Nat) : Nat → List Oper → List Nat
  | _, [] => []
  | i, o :: rest => match (loudB P o.op && !(A.contains i) && (deps o).all fun e => A.contains e) with
    | true => i :: readyL P A (i + 1) rest
    | false => readyL P A (i + 1) rest

def floats (P : Program) (T : List Nat) (l : Nat) (D A : List Nat) : Nat → List Oper → List Nat
  | _, [] => []
  | i, o :: rest => match (A.contains i && !(loudB P o.op) && !(still o.op) && !(has T l i || D.any fun j => has T j i)) with
    | true => i :: floats P T l D A (i + 1) rest
    | false => floats P T l D A (i + 1) rest

def putE (n : Nat) (E : Env) (dst : Option Tmp) (v : Value) (k : Env → Prop) : Prop :=
  match dst with
  | none => k E
  | some d => match Nat.blt d n with
    | true => k (upd E d v)
    | false => False

def quietOp (P : Program) (E : Env) (op : Op) (ty : TypeId) (k : Value → Prop) (w : World) : Prop :=
  match op with
  | .move x => k (ev E x)
  | .pick c a b => match ev E c with
    | .bool true => k (ev E a)
    | .bool false => k (ev E b)
    | _ => False
  | _ => match act E op ty with
    | some s => RunQ P s k w
    | none => False

def quietW (P : Program) (n : Nat) (all : List Oper) (w : World) : List Nat → Env → (Env → Prop) → Prop
  | [], E, k => k E
  | i :: is, E, k => match all[i]? with
    | none => False
    | some o => guardW all n E o.guard
        (fun E => quietOp P E o.op o.type (fun v => putE n E o.dst v (fun E => quietW P n all w is E k)) w)
        (fun E => putE n E o.dst undef (fun E => quietW P n all w is E k))

def isDst (E : Env) (dst : Option Tmp) (v : Value) : Prop :=
  match dst with
  | none => True
  | some d => v = E d

def stayW (P : Program) (n : Nat) (all : List Oper) (E : Env) (w : World) (rest : Prop) : List Nat → Prop
  | [] => rest
  | i :: is => match all[i]? with
    | none => False
    | some o => (guardW all n E o.guard (fun E => quietOp P E o.op o.type (isDst E o.dst) w) (fun _ => True)) ∧ stayW P n all E w rest is

def loudsW (X : Nat → Prop) : List Nat → Prop
  | [] => True
  | [l] => X l
  | l :: l' :: ls => X l ∧ loudsW X (l' :: ls)

def drawW (P : Program) (n : Nat) (all : List Oper) (T : List Nat) (k : Env → World → Prop) : Nat → List Nat → List Nat → Env → World → Prop
  | 0, _, _, _, _ => False
  | fuel + 1, D, A, E, w => quietW P n all w (grow P A 0 all []) E fun E =>
    match readyL P (A ++ grow P A 0 all []) 0 all with
    | [] => k E w
    | l :: ls => loudsW (fun l => match all[l]? with
        | none => False
        | some o => guardW all n E o.guard
            (fun E => opW P E o.op o.type (putW n E o.dst (fun E w' =>
              stayW P n all E w' (drawW P n all T k fuel (l :: D) (l :: (A ++ grow P A 0 all [])) E w')
                (match isAssign o.op with | true => [] | false => floats P T l D (A ++ grow P A 0 all []) 0 all))) w)
            (fun E => putW n E o.dst (fun E w' => drawW P n all T k fuel (l :: D) (l :: (A ++ grow P A 0 all [])) E w') undef w)) (l :: ls)

def regionW (P : Program) (n : Nat) (all : List Oper) (draw : Bool) (k : Env → World → Prop) (E : Env) (w : World) : Prop :=
  match draw with
  | false => opsW P n all k all E w
  | true => match okR P all (ancGo all []) with
    | true => drawW P n all (ancGo all []) k (all.length + 1) [] [] E { w with drawn := w.drawn + 1 }
    | false => False

end Go.Dc
