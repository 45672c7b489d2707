/- The walk of whole bodies: code, results, calls. -/
import Derived.Test.YtpdcllhmbjnooaaDr
import Derived.Laws.Sem
namespace Go.Dc

def condW (v : Value) (a b : Prop) : Prop :=
  match v with
  | .bool true => a
  | .bool false => b
  | _ => False

/-- A guard's test, where the value may be missing. -/
def condU (v : Value) (a b c : Prop) : Prop :=
  match v with
  | .bool true => a
  | .bool false => b
  | .tuple ⟨[]⟩ => c
  | _ => False

def swp (P : Program) (n : Nat) : Code → (Exit → Env → World → Prop) → Env → World → Prop
  | .skip, Q => Q .normal
  | .region _ ops draw, Q => regionW P n ops.toList draw (Q .normal)
  | .seq a b, Q => swp P n a (afterThen (swp P n b Q) Q)
  | .cond c t e, Q => fun E w => condW (ev E c) (swp P n t Q E w) (swp P n e Q E w)
  | .block id b, Q => swp P n b (inBlk id Q)
  | .loop b, Q => fun E w => ∃ (I : Env → World → Prop) (m : Env → World → Nat), I E w ∧ ∀ E w, I E w → swp P n b (loopPost I m Q E w) E w
  | .exit id, Q => Q (.exit id)
  | .ret, Q => Q .ret
  | _, _ => fun _ _ => False

theorem lift_mono {n : Nat} {Q Q' : Exit → Env → World → Prop} (h : ∀ e E w, Q e E w → Q' e E w) : ∀ e a w, Lift n Q e a w → Lift n Q' e a w :=
  fun _ _ _ ⟨E, h1, h2⟩ => ⟨E, h1, h _ _ _ h2⟩

theorem swp_sound {P : Program} {n : Nat} (hm : P.follows .mixedOrders = true) : ∀ (c : Code) (Q : Exit → Env → World → Prop) (E : Env) (a : Act) (w : World), Agrees n E a →
    swp P n c Q E w → c.wp P (Lift n Q) a w := by
  intro c
  induction c with
  | skip => exact fun Q E a w hE h => wp_skip ⟨E, hE, h⟩
  | region id ops draw =>
    intro Q E a w hE h
    have := region_sound (all := ops.toList) (id := id) (draw := draw) hm (k := Q .normal) (Q := Q) (fun _ _ h => h) hE h
    simpa using this
  | seq x y ihx ihy =>
    intro Q E a w hE h
    refine wp_seq (wp_mono (ihx _ E a w hE h) ?_)
    rintro e a' w' ⟨E', h1, h2⟩
    cases e with
    | normal => exact ihy Q E' a' w' h1 h2
    | _ => exact ⟨E', h1, h2⟩
  | cond c x y ihx ihy =>
    intro Q E a w hE h
    have he : a.eval c = ev E c := by rw [eval_ev hE]
    have h' : condW (ev E c) (swp P n x Q E w) (swp P n y Q E w) := h
    unfold condW at h'
    split at h'
    · rename_i hc; exact wp_cond_true (by rw [he, hc]) (ihx Q E a w hE h')
    · rename_i hc; exact wp_cond_false (by rw [he, hc]) (ihy Q E a w hE h')
    · exact h'.elim
  | block id b ih =>
    intro Q E a w hE h
    refine wp_block (wp_mono (ih _ E a w hE h) ?_)
    rintro e a' w' ⟨E', h1, h2⟩
    cases e with
    | exit id' =>
      simp only [inBlk] at h2
      simp only [Exit.inBlock]
      by_cases hid : id' = id
      · subst hid
        rw [beq_self] at h2
        rw [if_pos rfl]
        exact ⟨E', h1, h2⟩
      · rw [beq_ne hid] at h2
        rw [if_neg hid]
        exact ⟨E', h1, h2⟩
    | _ => exact ⟨E', h1, h2⟩
  | loop b ih =>
    intro Q E a w hE h
    obtain ⟨I, m, h0, hr⟩ := h
    refine wp_loop (fun a w => ∃ E, Agrees n E a ∧ I E w) (fun a w => m (fun t => a.tmps.getD t undef) w) ⟨E, hE, h0⟩ ?_
    rintro a w ⟨E, hE, hI⟩
    have hEE : (fun t => a.tmps.getD t undef) = E := funext hE.2.2
    refine wp_mono (ih _ E a w hE (hr E w hI)) ?_
    rintro e a' w' ⟨E', h1, h2⟩
    cases e with
    | normal =>
      have hEE' : (fun t => a'.tmps.getD t undef) = E' := funext h1.2.2
      exact ⟨⟨E', h1, h2.1⟩, by rw [hEE, hEE']; exact h2.2⟩
    | _ => exact ⟨E', h1, h2⟩
  | exit id => exact fun Q E a w hE h => wp_exit ⟨E, hE, h⟩
  | ret => exact fun Q E a w hE h => wp_ret ⟨E, hE, h⟩
  | _ => intros; rename_i h; exact h.elim

theorem quietOp_mono {P : Program} {E : Env} {op : Op} {ty : TypeId} {k k' : Value → Prop} {w : World} (h : ∀ v, k v → k' v) (hh : quietOp P E op ty k w) : quietOp P E op ty k' w := by
  unfold quietOp at *
  split at hh
  · exact h _ hh
  · split at hh
    · exact h _ hh
    · exact h _ hh
    · exact hh
  split at hh
  · unfold RunQ at *
    split at hh
    · exact ⟨hh.1, h _ hh.2⟩
    · exact hh
  · exact hh

theorem putE_mono {n : Nat} {E : Env} {dst : Option Tmp} {v : Value} {k k' : Env → Prop} (h : ∀ E, k E → k' E) (hh : putE n E dst v k) : putE n E dst v k' := by
  unfold putE at *
  split at hh
  · exact h _ hh
  · rename_i d
    cases hb : Nat.blt d n <;> simp only [hb] at hh ⊢
    exact h _ hh

theorem quietW_mono {P : Program} {n : Nat} {all : List Oper} {w : World} : ∀ (is : List Nat) (E : Env) {k k' : Env → Prop}, (∀ E, k E → k' E) → quietW P n all w is E k → quietW P n all w is E k'
  | [], _, _, _, h, hh => h _ hh
  | i :: is, E, k, k', h, hh => by
    unfold quietW at *
    split at hh
    · exact hh
    · exact guardW_mono (fun _ hy => quietOp_mono (fun _ hv => putE_mono (fun _ => quietW_mono is _ h) hv) hy) (fun _ hn => putE_mono (fun _ => quietW_mono is _ h) hn) hh

theorem stayW_mono {P : Program} {n : Nat} {all : List Oper} {E : Env} {w : World} {r r' : Prop} (h : r → r') : ∀ is : List Nat, stayW P n all E w r is → stayW P n all E w r' is
  | [], hh => h hh
  | i :: is, hh => by
    unfold stayW at *
    split at hh
    · exact hh
    · exact ⟨hh.1, stayW_mono h is hh.2⟩

theorem loudsW_mono {X Y : Nat → Prop} (h : ∀ i, X i → Y i) : ∀ ls, loudsW X ls → loudsW Y ls
  | [], hh => hh
  | [_], hh => h _ hh
  | _ :: l :: ls, hh => ⟨h _ hh.1, loudsW_mono h (l :: ls) hh.2⟩

theorem drawW_mono {P : Program} {n : Nat} {all : List Oper} {T : List Nat} {k k' : Env → World → Prop} (h : ∀ E w, k E w → k' E w) : ∀ (fuel : Nat) (D A : List Nat) (E : Env) (w : World),
    drawW P n all T k fuel D A E w → drawW P n all T k' fuel D A E w
  | 0, _, _, _, _, hh => hh
  | fuel + 1, D, A, E, w, hh => by
    unfold drawW at *
    refine quietW_mono _ _ (fun E hE => ?_) hh
    split at hE
    · exact h _ _ hE
    · refine loudsW_mono (fun i hi => ?_) _ hE
      split at hi
      · exact hi
      · exact guardW_mono (fun _ hy => opW_mono (fun _ _ hv => putW_mono (fun _ _ hs => stayW_mono (drawW_mono h fuel _ _ _ _) _ hs) hv) hy) (fun _ hn => putW_mono (fun _ _ => drawW_mono h fuel _ _ _ _) hn) hi

theorem regionW_mono {P : Program} {n : Nat} {all : List Oper} {draw : Bool} {k k' : Env → World → Prop} (h : ∀ E w, k E w → k' E w) {E : Env} {w : World} (hh : regionW P n all draw k E w) : regionW P n all draw k' E w := by
  unfold regionW at *
  split at hh
  · exact opsW_mono h all E w hh
  · split at hh
    · exact drawW_mono h _ _ _ _ _ hh
    · exact hh

theorem swp_mono {P : Program} {n : Nat} : ∀ (c : Code) (Q Q' : Exit → Env → World → Prop), (∀ e E w, Q e E w → Q' e E w) → ∀ E w, swp P n c Q E w → swp P n c Q' E w := by
  intro c
  induction c with
  | skip => exact fun Q Q' h E w hh => h _ _ _ hh
  | region id ops draw => exact fun Q Q' h E w hh => regionW_mono (fun _ _ => h _ _ _) hh
  | seq x y ihx ihy =>
    intro Q Q' h E w hh
    refine ihx _ _ (fun e E w hq => ?_) E w hh
    cases e with
    | normal => exact ihy Q Q' h E w hq
    | _ => exact h _ _ _ hq
  | cond c x y ihx ihy =>
    intro Q Q' h E w hh
    show condW _ _ _
    have hh' : condW (ev E c) (swp P n x Q E w) (swp P n y Q E w) := hh
    unfold condW at hh' ⊢
    split at hh'
    · exact ihx Q Q' h E w hh'
    · exact ihy Q Q' h E w hh'
    · exact hh'
  | block id b ih =>
    intro Q Q' h E w hh
    refine ih _ _ (fun e E w hq => ?_) E w hh
    cases e with
    | exit id' =>
      simp only [inBlk] at hq ⊢
      split at hq <;> exact h _ _ _ hq
    | _ => exact h _ _ _ hq
  | loop b ih =>
    intro Q Q' h E w hh
    obtain ⟨I, m, h0, hr⟩ := hh
    refine ⟨I, m, h0, fun E w hI => ih _ _ (fun e E' w' hq => ?_) E w (hr E w hI)⟩
    cases e with
    | normal => exact hq
    | _ => exact h _ _ _ hq
  | exit id => exact fun Q Q' h E w hh => h _ _ _ hh
  | ret => exact fun Q Q' h E w hh => h _ _ _ hh
  | _ => intros; rename_i hh; exact hh.elim

/-- A way on that has a name. -/
theorem swp_join {P : Program} {n : Nat} {x y : Code} {Q : Exit → Env → World → Prop} (J : Env → World → Prop) (hy : ∀ E w, J E w → swp P n y Q E w) {E : Env} {w : World}
    (hx : swp P n x (afterThen J Q) E w) : swp P n (.seq x y) Q E w := by
  refine swp_mono x _ _ (fun e E w hq => ?_) E w hx
  cases e with
  | normal => exact hy E w hq
  | _ => exact hq

/-- A loop over what it carries. -/
def LoopW {S : Type} (body : (S → World → Prop) → S → World → Prop) (s : S) (w : World) : Prop :=
  ∃ (I : S → World → Prop) (m : S → World → Nat), I s w ∧ ∀ s w, I s w → body (fun s' w' => I s' w' ∧ m s' w' < m s w) s w

theorem swp_loop {P : Program} {n : Nat} {b : Code} {Q : Exit → Env → World → Prop} {S : Type} (pr : Env → S) (body : (S → World → Prop) → S → World → Prop)
    (hb : ∀ (next : S → World → Prop) E w, body next (pr E) w → swp P n b (afterThen (fun E w => next (pr E) w) Q) E w) {E : Env} {w : World} (h : LoopW body (pr E) w) : swp P n (.loop b) Q E w := by
  obtain ⟨I, m, h0, hr⟩ := h
  refine ⟨fun E w => I (pr E) w, fun E w => m (pr E) w, h0, fun E w hI => ?_⟩
  refine swp_mono b _ _ (fun e E' w' hq => ?_) E w (hb _ E w (hr (pr E) w hI))
  cases e with
  | normal => exact hq
  | _ => exact hq

theorem swp_cond {P : Program} {n : Nat} {c : Operand} {x y : Code} {Q : Exit → Env → World → Prop} {E : Env} {w : World} {a b : Prop} (h : condW (ev E c) a b) (ha : a → swp P n x Q E w) (hb : b → swp P n y Q E w) :
    swp P n (.cond c x y) Q E w := by
  show condW _ _ _
  unfold condW at h ⊢
  split at h
  · exact ha h
  · exact hb h
  · exact h

theorem condW_true (a b : Prop) : condW (.bool true) a b = a := rfl
theorem condW_false (a b : Prop) : condW (.bool false) a b = b := rfl
theorem loopW_intro {S : Type} {body : (S → World → Prop) → S → World → Prop} {s : S} {w : World} (I : S → World → Prop) (m : S → World → Nat) (h0 : I s w)
    (h : ∀ s w, I s w → ∀ next : S → World → Prop, (∀ s' w', I s' w' → m s' w' < m s w → next s' w') → body next s w) : LoopW body s w :=
  ⟨I, m, h0, fun s w hI => h s w hI _ fun _ _ h1 h2 => ⟨h1, h2⟩⟩

/-! ### Results and calls -/

def bodyOf (f : Func) : Code :=
  match f.body with
  | some c => c
  | none => .skip


def resW (P : Program) (E : Env) (w : World) (Q : Cont) : List ResultVar → List Value → Prop
  | [], vs => match vs with
    | [v] => Q v w
    | vs => Q (.tuple vs.toArray) w
  | .tmp t :: rs, vs => resW P E w Q rs (vs ++ [E t])
  | .cell a t :: rs, vs => RunQ P (Instr.loadAt t (E a)) (fun v => resW P E w Q rs (vs ++ [v])) w

def retW (P : Program) (rs : Array ResultVar) (Q : Cont) : Exit → Env → World → Prop
  | .normal, E, w => resW P E w Q rs.toList []
  | .ret, E, w => resW P E w Q rs.toList []
  | _, _, _ => False

theorem loadAt_ptr {P : Program} {t : TypeId} {x v : Value} {w w' : World} (h : (Instr.loadAt t x).run P w = .ok v w') : ∃ p, x = .pointer (some p) ∧ (loadVar t p).run P w = .ok v w' := by
  unfold Instr.loadAt at h
  rw [bind_eq, run_bind] at h
  cases x with
  | pointer q => cases q with
    | some p => exact ⟨p, rfl, h⟩
    | none => cases h
  | _ => cases h

def resS (a : Act) : ResultVar → Sem Value
  | .tmp t => pure (a.tmps.getD t undef)
  | .cell b t => do loadVar t (← asAddr (a.tmps.getD b undef))

theorem resS_cell {P : Program} {a : Act} {b : Tmp} {t : TypeId} {p : Addr} {w : World} (h : a.tmps.getD b undef = .pointer (some p)) : (resS a (.cell b t)).run P w = (loadVar t p).run P w := by
  simp only [resS, h]
  rfl

theorem mapM_run {P : Program} {a : Act} {E : Env} {w : World} {Q : Cont} (hE : ∀ t, a.tmps.getD t undef = E t) : ∀ (rs : List ResultVar) (vs : List Value), resW P E w Q rs vs →
    ∃ us, (rs.mapM (resS a)).run P w = .ok us w ∧ (match vs ++ us with | [v] => Q v w | us => Q (.tuple us.toArray) w)
  | [], vs, h => ⟨[], rfl, by simpa [resW] using h⟩
  | .tmp t :: rs, vs, h => by
    obtain ⟨us, h1, h2⟩ := mapM_run hE rs (vs ++ [E t]) h
    refine ⟨E t :: us, ?_, by simpa using h2⟩
    have h3 : (resS a (.tmp t)).run P w = .ok (E t) w := by rw [← hE t]; rfl
    rw [List.mapM_cons]
    simp only [bind_eq, run_bind, h3, h1]
    rfl
  | .cell b t :: rs, vs, h => by
    unfold resW RunQ at h
    split at h
    · rename_i v w' hr
      obtain ⟨rfl, h⟩ := h
      obtain ⟨us, h1, h2⟩ := mapM_run hE rs (vs ++ [v]) h
      obtain ⟨p, hp, hl⟩ := loadAt_ptr hr
      refine ⟨v :: us, ?_, by simpa using h2⟩
      have h3 : (resS a (.cell b t)).run P w' = .ok v w' := by rw [resS_cell (p := p) (by rw [hE, hp]), hl]
      rw [List.mapM_cons]
      simp only [bind_eq, run_bind, h3, h1]
      rfl
    · exact h.elim

theorem results_run {P : Program} {fn : Func} {a : Act} {E : Env} {w : World} {Q : Cont} (hE : ∀ t, a.tmps.getD t undef = E t) (h : resW P E w Q fn.results.toList []) :
    ∃ v, (results fn a.tmps).run P w = .ok v w ∧ Q v w := by
  obtain ⟨us, h1, h2⟩ := mapM_run hE _ _ h
  rw [List.nil_append] at h2
  have h3 : (fn.results.mapM (resS a)).run P w = .ok us.toArray w := by
    rw [Array.mapM_eq_mapM_toList]
    show ((fn.results.toList.mapM (resS a)).bind _).run P w = _
    rw [run_bind, h1]
    rfl
  have h4 : (results fn a.tmps).run P w = .ok (if h : us.toArray.size = 1 then us.toArray[0] else .tuple us.toArray) w := by
    show ((fn.results.mapM (resS a)).bind _).run P w = _
    rw [run_bind, h3]
    rfl
  refine ⟨_, h4, ?_⟩
  match us, h2 with
  | [], h2 => exact h2
  | [v], h2 => exact h2
  | u :: v :: us, h2 =>
    rw [dif_neg (by simp)]
    exact h2

def argE (args : List Value) : Env := fun t => args.getD t undef

theorem argE_eq (args : Array Value) (k t : Nat) : (args ++ Array.replicate k undef).getD t undef = argE args.toList t := by
  unfold argE
  rw [Array.getD_eq_getD_getElem?, List.getD_eq_getElem?_getD]
  by_cases h : t < args.size
  · rw [Array.getElem?_append_left h]; simp
  · rw [Array.getElem?_append_right (by omega)]
    rw [List.getElem?_eq_none (by simpa using h)]
    by_cases h2 : t - args.size < k
    · simp [h2]
    · simp [h2]

theorem calls_sound {P : Program} (hm : P.follows .mixedOrders = true) {f : FuncId} {fn : Func} {c : Code} {args : List Value} {w : World} {Q : Cont} (hf : P.funcs[f]? = some fn) (hb : fn.body = some c)
    (hn : Nat.ble args.length fn.ntmps = true) (h : swp P fn.ntmps c (retW P fn.results Q) (argE args) w) : Calls P f args.toArray w (RetPost Q) := by
  have hn' : args.length ≤ fn.ntmps := Nat.le_of_ble_eq_true hn
  refine calls_of_wp hf hb (wp_mono (swp_sound hm c _ _ _ w ?_ h) ?_)
  · exact ⟨by simp; omega, rfl, fun t => argE_eq _ _ t⟩
  · rintro e a w' ⟨E, hE, hq⟩
    cases e with
    | normal => obtain ⟨v, h1, h2⟩ := results_run hE.2.2 hq; exact ⟨hE.2.1, v, h1, h2⟩
    | ret => obtain ⟨v, h1, h2⟩ := results_run hE.2.2 hq; exact ⟨hE.2.1, v, h1, h2⟩
    | _ => exact hq.elim

/-- A function with a body: a call of it is its body's walk. -/
theorem ret_sound {P : Program} {f : FuncId} {fn : Func} {args : Array Value} {Q : Cont} {w : World} (hf : P.funcs[f]? = some fn) (h1 : (fn.name == "runtime.NumGoroutine") = false) (h2 : fn.body.isNone = false)
    (h : Calls P f args w (RetPost Q)) : Ret P f args Q w := by
  have hr : (callFunc f args).run P w = .ok (.enter f args) w := by
    show (Sem.bind (.program .pure) _).run P w = _
    simp only [Sem.bind, Sem.run, hf]
    rw [if_neg (by simp [h1]), if_neg (by simp [h2])]
    rfl
  unfold Ret
  rw [hr]
  exact h

theorem fn_sound {P : Program} (hm : P.follows .mixedOrders = true) {f : FuncId} {fn : Func} {c : Code} {args : List Value} {w : World} {Q : Cont} (hf : P.funcs[f]? = some fn) (h1 : (fn.name == "runtime.NumGoroutine") = false) (hb : fn.body = some c)
    (hn : Nat.ble args.length fn.ntmps = true) (h : swp P fn.ntmps c (retW P fn.results Q) (argE args) w) : Ret P f args.toArray Q w :=
  ret_sound hf h1 (by rw [hb]; rfl) (calls_sound hm hf hb hn h)

attribute [irreducible] LoopW condW

end Go.Dc
