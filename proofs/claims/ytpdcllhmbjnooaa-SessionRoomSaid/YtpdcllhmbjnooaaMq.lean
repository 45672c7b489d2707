/- Maps: an entry that is laid and then filled; lists of pairs mapped and filtered. -/
import Derived.Test.YtpdcllhmbjnooaaMp
namespace Go.Dc
section
variable {P : Program} {α : Type} [DecidableEq α]

def StampIs (key : α → Value) (o : Option Obj) (a : α) (n : Int) : Prop :=
  ∃ es c, ∃ e : MapEntry, o = some (.map es c) ∧ e ∈ es.toList ∧ e.key = key a ∧ (e.born : Int) = n

theorem run_mapEntry {t K V : TypeId} {key : α → Value} {z : Value} (ht : P.underlying t = some (.map K V)) (hk : Keys P K key) (hz : (P.info? V).bind (·.zero) = some z) {r : Nat} {l : List (α × Value)} {w : World}
    (h : MapIs key (hp w r) l) (a : α) (hn : getM l a = none) : ∃ o n, MapIs key (some o) (setM l a z) ∧ StampIs key (some o) a n ∧ (Instr.mapEntry t (.map (some r)) (key a)).run P w = .ok (.tuple #[z, I n]) (put w r o) := by
  obtain ⟨es, c, h1, h2, h3, h4⟩ := h
  have hzv : (zeroValue V).run P w = .ok z w := by
    cases hi : P.info? V with
    | none => rw [hi] at hz; cases hz
    | some inf =>
      rw [hi] at hz
      simp only [Option.bind_some] at hz
      show (Sem.bind (Sem.bind (.program .pure) _) _).run P w = _
      simp only [Sem.bind, Sem.run, hi]
      show (match inf.zero with | some v => (pure v : Sem Value) | none => _).run P w = _
      rw [hz]
      rfl
  have hf : findI l a 0 = none := by
    have := findI_get l a 0
    rw [hn] at this
    cases hx : findI l a 0 with
    | none => rfl
    | some p => rw [hx] at this; cases this
  obtain ⟨hs, _⟩ := findI_none (v := z) hf
  refine ⟨.map (es.push { key := key a, val := z, born := c }) (c + 1), c, ⟨_, _, rfl, ?_, ?_, ?_⟩, ⟨_, _, { key := key a, val := z, born := c }, rfl, by simp, rfl, rfl⟩, ?_⟩
  · rw [hs]; simp [h2]
  · simp only [Array.toList_push, List.map_append, List.map_cons, List.map_nil]
    rw [List.nodup_append]
    refine ⟨h3, by simp, fun x hx y hy => ?_⟩
    simp at hy
    subst hy
    obtain ⟨e, he, rfl⟩ := List.mem_map.1 hx
    exact Nat.ne_of_lt (h4 e he)
  · intro e he
    simp at he
    rcases he with he | rfl
    · have := h4 e (by simpa using he); omega
    · exact Nat.lt_succ_self c
  · unfold Instr.mapEntry
    simp only [bind_eq, run_bind, run_under ht, run_getMap h1, hk.ck, run_findKey hk a h2, hf, hzv, run_setMap h1, run_pure]
    rfl

theorem nodup_born {es : List MapEntry} (hn : (es.map (·.born)).Nodup) {e e' : MapEntry} (h : e ∈ es) (h' : e' ∈ es) (hb : e.born = e'.born) : e = e' := by
  induction es with
  | nil => cases h
  | cons x es ih =>
    simp only [List.map_cons, List.nodup_cons] at hn
    rcases List.mem_cons.1 h with g | g <;> rcases List.mem_cons.1 h' with g' | g'
    · rw [g, g']
    · exact absurd (g ▸ List.mem_map.2 ⟨e', g', hb.symm⟩ : x.born ∈ es.map (·.born)) hn.1
    · exact absurd (g' ▸ List.mem_map.2 ⟨e, g, hb⟩ : x.born ∈ es.map (·.born)) hn.1
    · exact ih hn.2 g g'

theorem setM_at (l : List (α × Value)) : ∀ (j : Nat) (a : α) (v : Value), (l.map (·.1)).Nodup → (hj : j < l.length) → (l[j]).1 = a → setM l a v = l.set j (a, v) := by
  induction l with
  | nil => intro j a v _ hj; simp at hj
  | cons p l ih =>
    intro j a v hl hj hlj
    obtain ⟨b, u⟩ := p
    simp only [List.map_cons, List.nodup_cons] at hl
    unfold setM
    cases j with
    | zero =>
      simp at hlj
      rw [if_pos hlj.symm]
      rfl
    | succ j =>
      simp only [List.getElem_cons_succ] at hlj
      have hne : a ≠ b := by
        rintro rfl
        exact hl.1 (List.mem_map.2 ⟨l[j]'(by simpa using hj), List.getElem_mem _, hlj⟩)
      rw [if_neg hne, ih j a v hl.2 (by simpa using hj) hlj]
      rfl

theorem run_entryStore {t : TypeId} {key : α → Value} (hinj : ∀ a b, key a = key b → a = b) {r : Nat} {l : List (α × Value)} {w : World} (hl : (l.map (·.1)).Nodup)
    (h : MapIs key (hp w r) l) (a : α) (n : Int) (hst : StampIs key (hp w r) a n) (v : Value) : ∃ o, MapIs key (some o) (setM l a v) ∧ (unitS (Instr.entryStore t (.map (some r)) (I n) v)).run P w = .ok undef (put w r o) := by
  obtain ⟨es, c, h1, h2, h3, h4⟩ := h
  obtain ⟨es', c', e, g1, g2, g3, g4⟩ := hst
  rw [h1] at g1; injection g1 with g1; injection g1 with g1 g1'; subst g1; subst g1'
  obtain ⟨j, hj⟩ := List.mem_iff_getElem?.1 g2
  have hjs : j < es.size := by have := (List.getElem?_eq_some_iff.1 hj).1; simpa using this
  have hej : es[j] = e := by
    have : es.toList[j]? = some es[j] := by simp [hjs]
    rw [this] at hj; injection hj
  have hfind : es.findIdx? (fun e => (e.born : Int) == n) = some j := by
    rw [Array.findIdx?_eq_some_iff_getElem]
    refine ⟨hjs, by rw [hej]; simpa using g4, fun i hi => ?_⟩
    simp only [Bool.not_eq_true, beq_eq_false_iff_ne]
    intro hb
    have : es[i]'(by omega) = e := nodup_born h3 (by simp) g2 (by rw [← g4] at hb; exact Int.ofNat.inj hb)
    have hnd := List.pairwise_iff_getElem.1 h3 i j (by simp; omega) (by simp; exact hjs) hi
    simp [this, hej] at hnd
  have hlen : es.toList.length = l.length := by have := congrArg List.length h2; simpa using this
  have hjl : j < l.length := by rw [← hlen]; simpa using hjs
  have hlj : (l[j]).1 = a := by
    have h5 := congrArg (fun x => x[j]?) h2
    simp only [List.getElem?_map, List.getElem?_eq_getElem hjl, Option.map_some, Array.getElem?_toList, Array.getElem?_eq_getElem hjs] at h5
    injection h5 with h5
    injection h5 with h5 _
    rw [hej, g3] at h5
    exact (hinj _ _ h5).symm
  have hset : setM l a v = l.set j (a, v) := setM_at l j a v hl hjl hlj
  refine ⟨.map (es.modify j fun e => { e with val := v }) c, ⟨_, _, rfl, ?_, ?_, ?_⟩, ?_⟩
  · rw [hset, map_modify]
    apply List.ext_getElem?
    intro i
    have h5 := congrArg (fun x => x[i]?) h2
    simp only [List.getElem?_map, List.getElem?_set, List.getElem?_modify] at h5 ⊢
    by_cases hij : j = i
    · subst hij
      simp [hjl, hjs, hej, g3]
    · simp only [hij, if_false]
      cases hx : es.toList[i]? with
      | none => rw [hx] at h5; simpa using h5
      | some e => rw [hx] at h5; simpa using h5
  · rw [map_modify]
    have : (es.toList.modify j fun e => { e with val := v }).map (·.born) = es.toList.map (·.born) := by
      apply List.ext_getElem?
      intro i
      simp only [List.getElem?_map, List.getElem?_modify]
      cases es.toList[i]? with
      | none => rfl
      | some e => by_cases hij : j = i <;> simp [hij]
    rw [this]
    exact h3
  · intro e' he
    rw [map_modify] at he
    obtain ⟨i, hi⟩ := List.mem_iff_getElem?.1 he
    rw [List.getElem?_modify] at hi
    cases hx : es.toList[i]? with
    | none => rw [hx] at hi; cases hi
    | some e0 =>
      rw [hx] at hi
      have := h4 e0 (List.mem_of_getElem? hx)
      by_cases hij : j = i
      · simp [hij] at hi; subst hi; exact this
      · simp [hij] at hi; subst hi; exact this
  · have hi : (asInt (I n)).run P w = .ok n w := rfl
    unfold unitS
    rw [run_bind]
    have : (Instr.entryStore t (.map (some r)) (I n) v).run P w = .ok () (put w r (.map (es.modify j fun e => { e with val := v }) c)) := by
      unfold Instr.entryStore
      simp only [bind_eq, run_bind, run_getMap h1, hi, hfind, run_setMap h1]
    rw [this]
    rfl
end
end Go.Dc
