/- What operations do to a world whose blocks are known: over any program. -/
import Derived.Test.YtpdcllhmbjnooaaCo
import Derived.Laws.Rows
import Derived.Laws.Tables
import Derived.Laws.CopyRow
import Derived.Laws.World
import Derived.Laws.AppendOwn
import Derived.Conc.AtomicLaws2
namespace Go.Dc

/-- An equation that the rewriting is to take by its proof, not by unfolding. -/
theorem byEq {α : Type} {a b : α} (h : a = b) : a = b := Classical.byContradiction fun g => g h

abbrev pt (b o : Nat) : Value := .pointer (some ⟨b, o, none⟩)
abbrev I (n : Int) : Value := .int .i64 n
def drw (w : World) : World := { w with drawn := w.drawn + 1 }

/-- A word by which the rewriting takes a rule of congruence as used (so that it does not look into what comes behind). -/
def tick : Nat := 0
@[simp] theorem tick_eq : tick = 0 := Classical.byContradiction fun h => h rfl

/-- The block b of a world. -/
def hp (w : World) (b : Nat) : Option Obj := w.heap[b]?

section
variable {P : Program}
theorem Run_ok {s : Sem Value} {k : Cont} {w w' : World} {v : Value} (h : s.run P w = .ok v w') : Run P s k w = k v w' := by unfold Run; rw [h]
theorem RunQ_ok {s : Sem Value} {k : Value → Prop} {w : World} {v : Value} (h : s.run P w = .ok v w) : RunQ P s k w = k v := by unfold RunQ; rw [h]; simp
end
/-! ### Worlds -/

def put (w : World) (b : Nat) (o : Obj) : World := { w with heap := w.heap.setIfInBounds b o }

@[simp] theorem hp_put (w : World) (b : Nat) (o : Obj) (c : Nat) : hp (put w b o) c = if c = b then (if b < w.heap.size then some o else none) else hp w c := by
  unfold put hp
  by_cases h : c = b
  · subst h
    by_cases hl : c < w.heap.size <;> simp [hl]
  · rw [if_neg h]
    exact Array.getElem?_setIfInBounds_ne (Ne.symm h)
@[simp] theorem size_put (w : World) (b : Nat) (o : Obj) : (put w b o).heap.size = w.heap.size := by simp [put]
@[simp] theorem hp_alloc (w : World) (o : Obj) (c : Nat) : hp (w.alloc o) c = if c = w.heap.size then some o else hp w c := by
  unfold World.alloc hp
  by_cases h : c = w.heap.size
  · subst h; simp
  · rw [if_neg h]
    by_cases hl : c < w.heap.size
    · simp [Array.getElem?_push, h]
    · simp [Array.getElem?_push, h]
@[simp] theorem hp_drw (w : World) (b : Nat) : hp (drw w) b = hp w b := rfl
@[simp] theorem size_drw (w : World) : (drw w).heap.size = w.heap.size := rfl
@[simp] theorem hp_drew (w : World) (b : Nat) : hp w.drew b = hp w b := rfl
theorem lt_of_hp {w : World} {b : Nat} {o : Obj} (h : hp w b = some o) : b < w.heap.size := (Array.getElem?_eq_some_iff.1 h).1

theorem put_setCell {w : World} {b i : Nat} {v : Value} {cs : Array Value} {T : TypeId} {fr : Nat × Nat} (h : hp w b = some (.cells cs T fr)) : w.setCell ⟨b, i, none⟩ v = put w b (.cells (cs.setIfInBounds i v) T fr) := by
  unfold World.setCell put
  have hb := lt_of_hp h
  unfold hp at h
  congr 1
  apply Array.ext_getElem?
  intro j
  by_cases hj : j = b
  · subst hj
    rw [Array.getElem?_modify, h]
    simp [hb]
  · rw [Array.getElem?_setIfInBounds_ne (Ne.symm hj), Array.getElem?_modify]
    simp [Ne.symm hj]

theorem put_setRow {w : World} {b : Nat} {cs ds : Array Value} {T : TypeId} {fr : Nat × Nat} (h : hp w b = some (.cells cs T fr)) : w.setRow b ds = put w b (.cells ds T fr) := by
  unfold World.setRow put
  have hb := lt_of_hp h
  unfold hp at h
  congr 1
  apply Array.ext_getElem?
  intro j
  by_cases hj : j = b
  · subst hj
    rw [Array.getElem?_modify, h]
    simp [hb]
  · rw [Array.getElem?_setIfInBounds_ne (Ne.symm hj), Array.getElem?_modify]
    simp [Ne.symm hj]

/-- Only the blocks of S, and new ones, are other than they were. -/
structure Ext (S : List Nat) (w w' : World) : Prop where
  os : w'.os = w.os
  tape : w'.tape = w.tape
  output : w'.output = w.output
  size : w.heap.size ≤ w'.heap.size
  same : ∀ b, b < w.heap.size → b ∉ S → hp w' b = hp w b

theorem Ext.refl (S : List Nat) (w : World) : Ext S w w := ⟨rfl, rfl, rfl, Nat.le_refl _, fun _ _ _ => rfl⟩
theorem Ext.alloc {S : List Nat} {w w' : World} {o : Obj} (h : Ext S w w') : Ext S w (w'.alloc o) :=
  ⟨h.os, h.tape, h.output, by simp; have := h.size; omega, fun b hb hs => by rw [hp_alloc, if_neg (by have := h.size; omega)]; exact h.same b hb hs⟩
theorem Ext.drw {S : List Nat} {w w' : World} (h : Ext S w w') : Ext S w (drw w') := ⟨h.os, h.tape, h.output, h.size, h.same⟩
theorem Ext.drew {S : List Nat} {w w' : World} (h : Ext S w w') : Ext S w w'.drew := ⟨h.os, h.tape, h.output, h.size, h.same⟩
theorem Ext.put {S : List Nat} {w w' : World} {b : Nat} {o : Obj} (h : Ext S w w') (hb : b ∈ S ∨ w.heap.size ≤ b) : Ext S w (put w' b o) :=
  ⟨h.os, h.tape, h.output, by simp; exact h.size, fun c hc hs => by
    have : c ≠ b := by
      rintro rfl
      rcases hb with hb | hb
      · exact hs hb
      · omega
    rw [hp_put, if_neg this]
    exact h.same c hc hs⟩
theorem Ext.trans {S T : List Nat} {a b c : World} (h : Ext S a b) (k : Ext T b c) (hT : ∀ x ∈ T, x ∈ S ∨ a.heap.size ≤ x) : Ext S a c :=
  ⟨k.os.trans h.os, k.tape.trans h.tape, k.output.trans h.output, Nat.le_trans h.size k.size, fun x hx hs => by
    rw [k.same x (Nat.lt_of_lt_of_le hx h.size) (fun hx' => by
      rcases hT x hx' with h1 | h1
      · exact hs h1
      · omega)]
    exact h.same x hx hs⟩
theorem Ext.mono {S T : List Nat} {a b : World} (h : Ext S a b) (hs : ∀ x ∈ S, x ∈ T) : Ext T a b :=
  ⟨h.os, h.tape, h.output, h.size, fun x hx hn => h.same x hx (fun hh => hn (hs x hh))⟩
theorem Ext.at {S : List Nat} {w w' : World} (h : Ext S w w') {b : Nat} {o : Obj} (hb : hp w b = some o) (hs : b ∉ S) : hp w' b = some o := by
  rw [h.same b (lt_of_hp hb) hs, hb]

/-! ### Loads and stores -/

def cellOf (o : Option Obj) (i : Nat) : Option Value :=
  match o with
  | some (.cells c _ _) => c[i]?
  | _ => none
@[simp] theorem cellOf_some (c : Array Value) (T : TypeId) (fr : Nat × Nat) (i : Nat) : cellOf (some (.cells c T fr)) i = c[i]? := rfl

def optK (far : Prop) (o : Option Value) (k : Value → Prop) : Prop :=
  match o with
  | some v => k v
  | none => far
@[simp] theorem optK_some (far : Prop) (v : Value) (k : Value → Prop) : optK far (some v) k = k v := byEq rfl
@[congr] theorem optK_congr {far : Prop} {o o' : Option Value} {k : Value → Prop} (h : o = o') {c0 : Nat} (_ : tick = c0) : optK far o k = optK far o' k := by rw [h]

theorem cell_heap (w : World) (b i : Nat) : w.cell? ⟨b, i, none⟩ = cellOf (hp w b) i := by
  unfold World.cell? cellOf hp
  cases w.heap[b]? with
  | none => rfl
  | some o => cases o <;> rfl

def aggB (P : Program) (t : TypeId) : Bool :=
  match P.underlying t with
  | some (.struct _) | some (.array _ _) => true
  | _ => false
def knownB (P : Program) (t : TypeId) : Bool := (P.underlying t).isSome

section
variable {P : Program}
theorem run_load_scalar {t : TypeId} {a : Addr} {v : Value} {w : World} (ha : aggB P t = false) (hk : knownB P t = true) (h : w.cell? a = some v) : (Instr.loadAt t (.pointer (some a))).run P w = .ok v w := by
  unfold aggB at ha
  unfold knownB at hk
  cases hu : P.underlying t with
  | none => rw [hu] at hk; cases hk
  | some d =>
    rw [hu] at ha
    have hag : (isAgg t).run P w = .ok false w := by
      show (Sem.bind (Sem.bind (.program .pure) _) _).run P w = _
      simp only [Sem.bind, Sem.run, hu]
      cases d <;> first | rfl | cases ha
    show ((isAgg t).bind _).run P w = _
    rw [run_bind, hag]
    show (Sem.load .plain a .pure).run P w = _
    simp only [Sem.run, h]

/-- The cells i .. i + n - 1 of a block. -/
def rowOf (o : Option Obj) (i n : Nat) : Option Value :=
  match o with
  | some (.cells c _ _) => if i = 0 ∧ c.size = n then some (.agg c) else if i + n ≤ c.size then some (.agg (c.extract i (i + n))) else none
  | _ => none
theorem rowOf_whole (c : Array Value) (T : TypeId) (fr : Nat × Nat) (n : Nat) (h : c.size = n) : rowOf (some (.cells c T fr)) 0 n = some (.agg c) := by simp [rowOf, h]
theorem rowOf_part (c : Array Value) (T : TypeId) (fr : Nat × Nat) (i n : Nat) (h : i + n ≤ c.size) : rowOf (some (.cells c T fr)) i n = some (.agg (c.extract i (i + n))) := by
  unfold rowOf
  by_cases hc : i = 0 ∧ c.size = n
  · obtain ⟨rfl, rfl⟩ := hc
    simp
  · simp only [if_neg hc, if_pos h]

theorem addr_add (b i j : Nat) : (⟨b, i, none⟩ : Addr).add j = ⟨b, i + j, none⟩ := by
  unfold Addr.add
  split
  · rename_i h; subst h; rfl
  · rfl

theorem run_load_agg {t : TypeId} {n b i : Nat} {v : Value} {w : World} (ha : aggB P t = true) (hs : (P.info? t).map (·.size) = some n) (h : rowOf (hp w b) i n = some v) : (Instr.loadAt t (pt b i)).run P w = .ok v w := by
  unfold rowOf at h
  split at h
  · rename_i c T fr hb
    have hle : i + n ≤ c.size := by
      split at h
      · rename_i hc; omega
      · split at h
        · assumption
        · cases h
    have hv : v = .agg (c.extract i (i + n)) := by
      split at h
      · rename_i hc; obtain ⟨rfl, rfl⟩ := hc; injection h with h; subst h; simp
      · first | (rw [if_pos hle] at h; injection h with h; exact h.symm) | (injection h with h; exact h.symm)
    subst hv
    unfold aggB at ha
    cases hu : P.underlying t with
    | none => rw [hu] at ha; cases ha
    | some d =>
      rw [hu] at ha
      have hag : (isAgg t).run P w = .ok true w := by
        show (Sem.bind (Sem.bind (.program .pure) _) _).run P w = _
        simp only [Sem.bind, Sem.run, hu]
        cases d <;> first | rfl | cases ha
      cases hi : P.info? t with
      | none => rw [hi] at hs; cases hs
      | some inf =>
        rw [hi] at hs
        simp only [Option.map_some, Option.some.injEq] at hs
        have hsz : (sizeOf t).run P w = .ok n w := by
          show (Sem.bind (Sem.bind (.program .pure) _) _).run P w = _
          simp only [Sem.bind, Sem.run, hi]
          show Result.ok inf.size w = _
          rw [hs]
        have hlen : (c.extract i (i + n)).toList.length = n := by simp; omega
        have hl := run_loadCells_list (P := P) w ⟨b, i, none⟩ (c.extract i (i + n)).toList (fun j v hv => by
          rw [addr_add, cell_heap, hb, cellOf_some]
          have : j < n := by
            have := (List.getElem?_eq_some_iff.1 hv).1
            omega
          simp only [Array.getElem?_toList] at hv
          rw [Array.getElem?_extract] at hv
          split at hv
          · exact hv
          · cases hv)
        rw [hlen, Array.toArray_toList] at hl
        show ((isAgg t).bind _).run P w = _
        rw [run_bind, hag]
        show (Sem.bind (sizeOf t) _).run P w = _
        rw [run_bind, hsz]
        show (Sem.bind (loadCells _ _) _).run P w = _
        rw [run_bind, hl]
        rfl
  · cases h

/-- A block with a cell, or some, other than before. -/
def objK (far : Prop) (o : Option Obj) (i n : Nat) (k : Array Value → TypeId → Prop) : Prop :=
  match o with
  | some (.cells c T (0, 0)) => if i + n ≤ c.size then k c T else far
  | _ => far
@[congr] theorem objK_congr {far : Prop} {o o' : Option Obj} {i n : Nat} {k : Array Value → TypeId → Prop} (h : o = o') {c0 : Nat} (_ : tick = c0) : objK far o i n k = objK far o' i n k := by rw [h]
theorem objK_some {far : Prop} {c : Array Value} {T : TypeId} {i n : Nat} {k : Array Value → TypeId → Prop} (h : i + n ≤ c.size) : objK far (some (.cells c T (0, 0))) i n k = k c T := by
  unfold objK; simp [h]

theorem run_store_scalar {t : TypeId} {b i : Nat} {v : Value} {w : World} {c : Array Value} {T : TypeId} (hs : (P.info? t).map (·.size) = some 1) (h1 : v.oneCell' = true) (h : hp w b = some (.cells c T (0, 0))) (hi : i < c.size) :
    (unitS (Instr.storeAt t (pt b i) v)).run P w = .ok undef (put w b (.cells (c.setIfInBounds i v) T (0, 0))) := by
  have hc : v.cells = #[v] := by cases v <;> first | rfl | cases h1
  cases hi' : P.info? t with
  | none => rw [hi'] at hs; cases hs
  | some inf =>
    rw [hi'] at hs
    simp only [Option.map_some, Option.some.injEq] at hs
    have hsz : (sizeOf t).run P w = .ok 1 w := by
      show (Sem.bind (Sem.bind (.program .pure) _) _).run P w = _
      simp only [Sem.bind, Sem.run, hi']
      show Result.ok inf.size w = _
      rw [hs]
    unfold unitS
    rw [run_bind]
    have : (Instr.storeAt t (pt b i) v).run P w = .ok () (put w b (.cells (c.setIfInBounds i v) T (0, 0))) := by
      show (Sem.bind (sizeOf t) _).run P w = _
      rw [run_bind, hsz]
      simp only [hc]
      show (Sem.bind (store _ v) _).run P w = _
      rw [run_bind]
      have hst : (store ((⟨b, i, none⟩ : Addr).add 0) v).run P w = .ok () (put w b (.cells (c.setIfInBounds i v) T (0, 0))) := by
        have hcell : w.cell? ⟨b, i, none⟩ = some c[i] := by rw [cell_heap, h, cellOf_some, Array.getElem?_eq_getElem hi]
        have hfr : w.frozen? ⟨b, i, none⟩ = false := by unfold World.frozen?; unfold hp at h; simp [h]
        rw [addr_add, Nat.add_zero]
        show (Sem.store .plain _ v (.pure ())).run P w = _
        cases v <;> first | (simp only [Sem.run, hcell, hfr, Bool.false_eq_true, if_false, put_setCell h]; done) | exact nomatch h1
      rw [hst]
      rfl
    rw [this]
    rfl

def splice (c : Array Value) (i : Nat) (vs : Array Value) : Array Value := (c.toList.take i ++ vs.toList ++ c.toList.drop (i + vs.size)).toArray
theorem splice_whole (c vs : Array Value) (h : c.size = vs.size) : splice c 0 vs = vs := by
  unfold splice
  apply Array.ext'
  simp [← h]
theorem size_splice (c : Array Value) (i : Nat) (vs : Array Value) (h : i + vs.size ≤ c.size) : (splice c i vs).size = c.size := by
  unfold splice
  simp
  omega

theorem oneCell_eq (v : Value) : v.oneCell' = v.oneCell' := by cases v <;> rfl

theorem run_store_agg {t : TypeId} {n b i : Nat} {vs : Array Value} {w : World} {c : Array Value} {T : TypeId} (hs : (P.info? t).map (·.size) = some n) (hn : vs.size = n) (h1 : ∀ v ∈ vs, v.oneCell' = true) (h : hp w b = some (.cells c T (0, 0))) (hi : i + n ≤ c.size) :
    (unitS (Instr.storeAt t (pt b i) (.agg vs))).run P w = .ok undef (put w b (.cells (splice c i vs) T (0, 0))) := by
  cases hi' : P.info? t with
  | none => rw [hi'] at hs; cases hs
  | some inf =>
    rw [hi'] at hs
    simp only [Option.map_some, Option.some.injEq] at hs
    have hsz : (sizeOf t).run P w = .ok n w := by
      show (Sem.bind (Sem.bind (.program .pure) _) _).run P w = _
      simp only [Sem.bind, Sem.run, hi']
      show Result.ok inf.size w = _
      rw [hs]
    unfold unitS
    rw [run_bind]
    have hst := run_storeCells_at P b i T vs.toList 0 c w h (by simp; omega) (fun v hv => by exact h1 v (by simpa using hv))
    have : (Instr.storeAt t (pt b i) (.agg vs)).run P w = .ok () (put w b (.cells (splice c i vs) T (0, 0))) := by
      show (Sem.bind (sizeOf t) _).run P w = _
      rw [run_bind, hsz]
      have hv : (Value.agg vs).cells = vs := rfl
      simp only [hv, hn]
      rw [if_neg (by simp)]
      show (storeCells _ _ _).run P w = _
      rw [hst, put_setRow h]
      unfold splice
      simp
    rw [this]
    rfl

theorem run_intcmp {o : BinOp} {t : TypeId} {kd : IntKind} {a b : Int} {w : World} {r : Bool} (h : Op.intCmp o a b = .pure (.bool r)) (ho : o ≠ .add ∧ o ≠ .sub ∧ o ≠ .mul ∧ o ≠ .quo ∧ o ≠ .rem ∧ o ≠ .and ∧ o ≠ .or ∧ o ≠ .xor ∧ o ≠ .andNot ∧ o ≠ .shl ∧ o ≠ .shr) :
    (binS o t (.int kd a) (.int kd b)).run P w = .ok (.bool r) w := by
  unfold binS
  cases o <;> simp at ho <;>
  · show ((eqGuard _ t (.tmp 0) (.tmp 0) (.int kd a) (.int kd b)).bind _).run P w = _
    rw [run_bind]
    show (Go.binOp _ t (.int kd a) (.int kd b)).run P w = _
    simp only [Go.binOp, ne_eq, not_true_eq_false, if_false]
    rw [h]
    rfl

theorem run_intarith {o : BinOp} {t : TypeId} {kd : IntKind} {a b r : Int} {w : World} (h : (o = .add ∧ r = kd.wrap (a + b)) ∨ (o = .sub ∧ r = kd.wrap (a - b)) ∨ (o = .mul ∧ r = kd.wrap (a * b))) :
    (binS o t (.int kd a) (.int kd b)).run P w = .ok (.int kd r) w := by
  rcases h with ⟨rfl, rfl⟩ | ⟨rfl, rfl⟩ | ⟨rfl, rfl⟩ <;>
  · unfold binS
    show ((eqGuard _ t (.tmp 0) (.tmp 0) (.int kd a) (.int kd b)).bind _).run P w = _
    rw [run_bind]
    show (Go.binOp _ t (.int kd a) (.int kd b)).run P w = _
    simp only [Go.binOp, ne_eq, not_true_eq_false, if_false]
    rfl
theorem run_intand {t : TypeId} {kd : IntKind} {a b : Int} {w : World} :
    (binS .and t (.int kd a) (.int kd b)).run P w = .ok (.int kd (kd.wrap (BitVec.ofInt kd.bits a &&& BitVec.ofInt kd.bits b).toNat)) w := by
  unfold binS
  show ((eqGuard _ t (.tmp 0) (.tmp 0) (.int kd a) (.int kd b)).bind _).run P w = _
  rw [run_bind]
  show (Go.binOp _ t (.int kd a) (.int kd b)).run P w = _
  simp only [Go.binOp, ne_eq, not_true_eq_false, if_false]
  rfl

theorem run_under {t : TypeId} {d : TypeDesc} (ht : P.underlying t = some d) (w : World) : (underlying t).run P w = .ok d w := by
  show (Sem.bind (.program .pure) _).run P w = _
  simp only [Sem.bind, Sem.run, ht]
  rfl
theorem run_size {t : TypeId} {n : Nat} (hs : (P.info? t).map (·.size) = some n) (w : World) : (sizeOf t).run P w = .ok n w := by
  cases hi : P.info? t with
  | none => rw [hi] at hs; cases hs
  | some inf =>
    rw [hi] at hs
    simp only [Option.map_some, Option.some.injEq] at hs
    show (Sem.bind (Sem.bind (.program .pure) _) _).run P w = _
    simp only [Sem.bind, Sem.run, hi]
    show Result.ok inf.size w = _
    rw [hs]

theorem run_pure {α : Type} (a : α) (w : World) : (pure a : Sem α).run P w = .ok a w := rfl
theorem run_index_slice {t e sz : Nat} (ht : P.underlying t = some (.slice e)) (hs : (P.info? e).map (·.size) = some sz) (b o n c : Nat) (kd : IntKind) (j : Int) (h : 0 ≤ j ∧ j < n) (w : World) :
    (Instr.indexAt t (.slice (some ⟨b, o, none⟩) n c) (.int kd j)).run P w = .ok (pt b (o + j.toNat * sz)) w := by
  have h1 : (asIntOf (.int kd j)).run P w = .ok (kd, j) w := rfl
  simp only [Instr.indexAt, bind_eq, run_bind, h1, run_under ht, run_pure, if_pos h, run_size hs, addr_add]
end
end Go.Dc
namespace Go.Dc
section
variable {P : Program}
theorem ret_extern {f : FuncId} {args : Array Value} {k : Cont} {w : World} {s : Sem Value} (h : (callFunc f args).run P w = (s.bind fun v => .pure (.value v)).run P w) : Ret P f args k w = Run P s k w := by
  unfold Ret Run
  rw [h, run_bind]
  cases s.run P w <;> rfl

theorem run_atomicLoad {kd : IntKind} {b i : Nat} {n : Int} {w : World} (h : cellOf (hp w b) i = some (.int kd n)) : (Extern.Atomic.loadT (.int kd) #[pt b i]).run P w = .ok (.int kd n) w := by
  have h1 : (load ⟨b, i, none⟩ .atomic).run P w = .ok (.int kd n) w := by
    show (Sem.load .atomic _ .pure).run P w = _
    simp only [Sem.run, cell_heap, h]
  change (Sem.bind (load ⟨b, i, none⟩ .atomic) _).run P w = _
  rw [run_bind, h1]
  show (if kd = kd then _ else _ : Sem Value).run P w = _
  rw [if_pos rfl]
  rfl

theorem cell_frozen {b i : Nat} {c : Array Value} {T : TypeId} {w : World} (h : hp w b = some (.cells c T (0, 0))) : w.frozen? ⟨b, i, none⟩ = false := by
  unfold World.frozen?; unfold hp at h; simp [h]

theorem run_atomicStore {kd : IntKind} {b i : Nat} {n : Int} {c : Array Value} {T : TypeId} {w : World} (h : hp w b = some (.cells c T (0, 0))) (hi : i < c.size) :
    (Extern.Atomic.storeT #[pt b i, .int kd n]).run P w = .ok (.tuple #[]) (put w b (.cells (c.setIfInBounds i (.int kd n)) T (0, 0))) := by
  have hcell : w.cell? ⟨b, i, none⟩ = some c[i] := by rw [cell_heap, h, cellOf_some, Array.getElem?_eq_getElem hi]
  have h1 : (store ⟨b, i, none⟩ (.int kd n) .atomic).run P w = .ok () (put w b (.cells (c.setIfInBounds i (.int kd n)) T (0, 0))) := by
    show (Sem.store .atomic _ (.int kd n) (.pure ())).run P w = _
    simp only [Sem.run, hcell, cell_frozen h, Bool.false_eq_true, if_false, put_setCell h]
  change (Sem.bind (store ⟨b, i, none⟩ (.int kd n) .atomic) _).run P w = _
  rw [run_bind, h1]
  rfl

theorem run_atomicCas {kd : IntKind} {b i : Nat} {n m : Int} {c : Array Value} {T : TypeId} {w : World} (h : hp w b = some (.cells c T (0, 0))) (hn : c[i]? = some (.int kd n)) :
    (Extern.Atomic.casT (.int kd) #[pt b i, .int kd n, .int kd m]).run P w = .ok (.bool true) (put w b (.cells (c.setIfInBounds i (.int kd m)) T (0, 0))) := by
  have hcell : w.cell? ⟨b, i, none⟩ = some (.int kd n) := by rw [cell_heap, h, cellOf_some, hn]
  rw [Go.Conc.casT_eq, Go.Conc.run_cas_hit_entry hcell (cell_frozen h), put_setCell h]

theorem run_atomicAdd {kd : IntKind} {b i : Nat} {n d : Int} {c : Array Value} {T : TypeId} {w : World} (h : hp w b = some (.cells c T (0, 0))) (hn : c[i]? = some (.int kd n)) :
    (Extern.Atomic.update (Op.intArith .add) kd true #[pt b i, .int kd d]).run P w = .ok (.int kd (kd.wrap (n + d))) (put w b (.cells (c.setIfInBounds i (.int kd (kd.wrap (n + d)))) T (0, 0))) := by
  have hcell : w.cell? ⟨b, i, none⟩ = some (.int kd n) := by rw [cell_heap, h, cellOf_some, hn]
  rw [Go.Conc.run_add_entry hcell (cell_frozen h), put_setCell h]
end
end Go.Dc
