/- What an argument's reading says of its cells. -/
import Derived.Test.YtpdcllhmbjnooaaFa
import Derived.ProofKit
namespace Go.Proofs.Ytpdcllhmbjnooaa
open Go.Dc
set_option maxRecDepth 10000

/-- These cells read as a value of this type. -/
def Rd (w : World) (t : TypeId) (cs : List Value) : Prop := ∃ (H : Type) (enc : TypeId × Value → H) (spare : Nat → Bool) (fuel : Nat) (d : DataW H) (ps : List MemPlace), DataW.trod enc pg w 0 spare true fuel t cs = some (d, ps)

theorem mapM_all {α β : Type} (f : α → Option β) (l : List α) (ys : List β) (h : l.mapM f = some ys) : ∀ x ∈ l, ∃ y, f x = some y := by
  induction l generalizing ys with
  | nil => intro x hx; cases hx
  | cons a l ih =>
    simp only [List.mapM_cons, bind, Option.bind, pure] at h
    cases ha : f a with
    | none => rw [ha] at h; cases h
    | some y =>
      rw [ha] at h
      simp only at h
      cases hl : l.mapM f with
      | none => rw [hl] at h; cases h
      | some zs =>
        intro x hx
        rcases List.mem_cons.1 hx with rfl | hx
        · exact ⟨y, ha⟩
        · exact ih zs hl x hx

theorem Rd.int {w : World} {t : TypeId} {k : IntKind} {cs : List Value} (ht : pg.underlying t = some (.int k)) (h : Rd w t cs) : ∃ n, cs = [.int k n] ∧ (Lit.int k n).wf = true := by
  obtain ⟨H, enc, spare, fuel, d, ps, h⟩ := h
  cases fuel with
  | zero => simp [DataW.trod] at h
  | succ fuel =>
    unfold DataW.trod at h
    rw [ht] at h
    match cs, h with
    | [.int k' n], h =>
      simp only at h
      split at h
      · rename_i hk
        exact ⟨n, by rw [hk.1], hk.2⟩
      · cases h

theorem Rd.string {w : World} {t : TypeId} {cs : List Value} (ht : pg.underlying t = some .string) (h : Rd w t cs) : ∃ s : ByteArray, cs = [.string s] ∧ s.size ≤ maxLen := by
  obtain ⟨H, enc, spare, fuel, d, ps, h⟩ := h
  cases fuel with
  | zero => simp [DataW.trod] at h
  | succ fuel =>
    unfold DataW.trod at h
    rw [ht] at h
    match cs, h with
    | [.string s], h =>
      simp only at h
      split at h
      · rename_i hk
        exact ⟨s, rfl, hk⟩
      · cases h

theorem Rd.struct {w : World} {t : TypeId} {fs : Array Field} {cs : List Value} (ht : pg.underlying t = some (.struct fs)) (h : Rd w t cs) : cs.length = pg.cellsOf t ∧ ∀ f ∈ fs.toList, Rd w f.type ((cs.drop f.offset).take (pg.cellsOf f.type)) := by
  obtain ⟨H, enc, spare, fuel, d, ps, h⟩ := h
  cases fuel with
  | zero => simp [DataW.trod] at h
  | succ fuel =>
    unfold DataW.trod at h
    rw [ht] at h
    simp only at h
    split at h
    · rename_i hl
      simp only [Option.map_eq_some_iff] at h
      obtain ⟨xs, hx, _⟩ := h
      refine ⟨hl, fun f hf => ?_⟩
      obtain ⟨⟨d, ps⟩, hy⟩ := mapM_all _ _ _ hx f hf
      exact ⟨H, enc, spare, fuel, d, ps, hy⟩
    · cases h

theorem Rd.slice {w : World} {t e : TypeId} {cs : List Value} (ht : pg.underlying t = some (.slice e)) (h : Rd w t cs) : cs = [.slice none 0 0] ∨
    ∃ a n c, cs = [.slice (some a) n c] ∧ n ≤ c ∧ c ≤ maxLen ∧ ∀ i < n, ∃ xs, w.cells? 0 (a.add (i * pg.cellsOf e)) (pg.cellsOf e) = some xs ∧ Rd w e xs := by
  obtain ⟨H, enc, spare, fuel, d, ps, h⟩ := h
  cases fuel with
  | zero => simp [DataW.trod] at h
  | succ fuel =>
    unfold DataW.trod at h
    rw [ht] at h
    match cs, h with
    | [.slice none 0 0], _ => exact .inl rfl
    | [.slice (some a) n c], h =>
      right
      simp only at h
      split at h
      · rename_i hk
        simp only [Option.bind_eq_some_iff] at h
        obtain ⟨es, he, _⟩ := h
        refine ⟨a, n, c, rfl, hk.2.1, hk.2.2, fun i hi => ?_⟩
        obtain ⟨⟨d, ps⟩, hy⟩ := mapM_all _ _ _ he i (List.mem_range.2 hi)
        simp only [Option.bind_eq_some_iff] at hy
        obtain ⟨xs, h1, h2⟩ := hy
        exact ⟨xs, h1, H, enc, spare, fuel, d, ps, h2⟩
      · cases h

theorem mapM_get {α β : Type} (f : α → Option β) (l : List α) (ys : List β) (h : l.mapM f = some ys) : ys.length = l.length ∧ ∀ (j : Nat) (x : α), l[j]? = some x → ys[j]? = f x := by
  induction l generalizing ys with
  | nil =>
    simp only [List.mapM_nil, pure, Option.some.injEq] at h
    subst h
    simp
  | cons a l ih =>
    simp only [List.mapM_cons, bind, Option.bind, pure] at h
    cases ha : f a with
    | none => rw [ha] at h; cases h
    | some y =>
      rw [ha] at h
      simp only at h
      cases hl : l.mapM f with
      | none => rw [hl] at h; cases h
      | some zs =>
        rw [hl] at h
        simp only [Option.some.injEq] at h
        subst h
        obtain ⟨h1, h2⟩ := ih zs hl
        refine ⟨by simp [h1], fun j x hj => ?_⟩
        cases j with
        | zero =>
          simp at hj
          subst hj
          simpa using ha.symm
        | succ j => simpa using h2 j x (by simpa using hj)

theorem cells_get {w : World} {a : Addr} {n : Nat} {xs : List Value} (h : w.cells? 0 a n = some xs) : xs.length = n ∧ ∀ j < n, xs[j]? = w.cell? (a.add j) := by
  unfold World.cells? at h
  rw [if_pos (Nat.zero_le _)] at h
  obtain ⟨h1, h2⟩ := mapM_get _ _ _ h
  simp at h1
  exact ⟨h1, fun j hj => h2 j j (by simp [hj])⟩

theorem cell_hp {w : World} {b o : Nat} : w.cell? ⟨b, o, none⟩ = cellOf (hp w b) o := by
  unfold World.cell? hp cellOf
  simp
  rfl

/-- Where the elements of a slice lie, if there are any. -/
theorem Rd.elems {w : World} {e n : Nat} {a : Addr} (hn : 0 < n) (hsz : 0 < pg.cellsOf e) (h : ∀ i < n, ∃ xs, w.cells? 0 (a.add (i * pg.cellsOf e)) (pg.cellsOf e) = some xs ∧ Rd w e xs) :
    ∃ b o, a = ⟨b, o, none⟩ ∧ ∀ i < n, ∃ xs, Rd w e xs ∧ xs.length = pg.cellsOf e ∧ ∀ j < pg.cellsOf e, cellOf (hp w b) (o + i * pg.cellsOf e + j) = xs[j]? := by
  obtain ⟨b, o, spot⟩ := a
  have hs : spot = none := by
    obtain ⟨xs, h1, _⟩ := h 0 hn
    obtain ⟨h2, h3⟩ := cells_get h1
    have h4 := h3 0 hsz
    rw [Nat.zero_mul] at h4
    have e1 : Addr.add ⟨b, o, spot⟩ 0 = ⟨b, o, spot⟩ := rfl
    rw [e1, e1, List.getElem?_eq_getElem (by omega)] at h4
    cases spot with
    | none => rfl
    | some x =>
      exfalso
      unfold World.cell? at h4
      simp at h4
      split at h4 <;> cases h4
  subst hs
  refine ⟨b, o, rfl, fun i hi => ?_⟩
  obtain ⟨xs, h1, h2⟩ := h i hi
  obtain ⟨h3, h4⟩ := cells_get h1
  refine ⟨xs, h2, h3, fun j hj => ?_⟩
  rw [h4 j hj, ← cell_hp]
  congr 1
  unfold Addr.add
  by_cases c1 : i * pg.cellsOf e = 0
  · rw [if_pos c1]
    by_cases c2 : j = 0
    · rw [if_pos c2]; simp [c1, c2]
    · rw [if_neg c2]; simp [c1]
  · rw [if_neg c1]
    by_cases c2 : j = 0
    · rw [if_pos c2]; simp [c2]
    · rw [if_neg c2]

/-- A field: where, of which type, how many cells. -/
noncomputable def fieldAt (t i : Nat) : Option (Nat × TypeId × Nat) :=
  match pg.underlying t with
  | some (.struct fs) => (fs[i]?).map fun f => (f.offset, f.type, pg.cellsOf f.type)
  | _ => none

theorem Rd.field {w : World} {t i off ft n : Nat} {cs : List Value} (hf : fieldAt t i = some (off, ft, n)) (h : Rd w t cs) : Rd w ft ((cs.drop off).take n) := by
  unfold fieldAt at hf
  split at hf
  · rename_i fs hu
    simp only [Option.map_eq_some_iff] at hf
    obtain ⟨f, h1, h2⟩ := hf
    have h3 := (h.struct hu).2 f (List.mem_of_getElem? (by simpa using h1))
    simp only [Prod.mk.injEq] at h2
    obtain ⟨rfl, rfl, rfl⟩ := h2
    exact h3
  · cases hf
/-- A field of one cell. -/
theorem Rd.field1 {w : World} {t i off ft : Nat} {cs : List Value} (hf : fieldAt t i = some (off, ft, 1)) (h : Rd w t cs) {x : Value} (hx : cs[off]? = some x) : Rd w ft [x] := by
  have h1 := h.field hf
  have : (cs.drop off).take 1 = [x] := by
    rw [List.take_one, List.head?_drop, hx]
    rfl
  rwa [this] at h1

theorem at_of {m : Array Value} (h : m.size = 28) (i : Nat) (hi : i < 28) : ∃ x, m[i]? = some x ∧ m.toList[i]? = some x := by
  refine ⟨m[i]'(by omega), by simp [h, hi], by simp [h, hi]⟩
end Go.Proofs.Ytpdcllhmbjnooaa
