/- Maps with keys that are numbers or texts: what lookup, store, delete and len do. -/
import Derived.Test.YtpdcllhmbjnooaaLi
namespace Go.Dc
section
variable {P : Program} {α : Type} [DecidableEq α]

/-- Keys of a kind: how they are written, and that they are told apart at once. -/
structure Keys (P : Program) (K : TypeId) (key : α → Value) : Prop where
  d : ∃ d, P.underlying K = some d ∧ ∀ a b, Instr.sameNow d (key a) (key b) = some (decide (a = b))
  ck : ∀ (e : Bool) (a : α) (w : World), (Instr.checkKey e 10000 K (key a)).run P w = .ok () w
  bits : ∀ a, Instr.sameBits 10000 (key a) (key a) = true

theorem keys_int {K : TypeId} {kd kd' : IntKind} (h : P.underlying K = some (.int kd')) : Keys P K (fun n : Int => .int kd n) where
  d := ⟨_, h, fun a b => by
    show (if kd = kd then some (a == b) else none) = _
    rw [if_pos rfl]
    congr 1⟩
  ck e a w := by
    show ((underlying K).bind _).run P w = _
    rw [run_bind, run_under h]
    rfl
  bits a := by simp [Instr.sameBits]

theorem bytes_beq (a b : ByteArray) : (a == b) = decide (a = b) := by
  cases a with | mk a => cases b with | mk b =>
  rw [Bool.eq_iff_iff, decide_eq_true_iff, ByteArray.mk.injEq]
  exact @beq_iff_eq (Array UInt8) _ _ a b

theorem keys_string {K : TypeId} (h : P.underlying K = some .string) : Keys P K (fun s : ByteArray => .string s) where
  d := ⟨_, h, fun a b => congrArg some (bytes_beq a b)⟩
  ck e a w := by
    show ((underlying K).bind _).run P w = _
    rw [run_bind, run_under h]
    rfl
  bits a := (bytes_beq a a).trans (by simp)

def MapIs (key : α → Value) (o : Option Obj) (l : List (α × Value)) : Prop :=
  ∃ es c, o = some (.map es c) ∧ es.toList.map (fun e => (e.key, e.val)) = l.map (fun p => (key p.1, p.2)) ∧ (es.toList.map (·.born)).Nodup ∧ ∀ e ∈ es.toList, e.born < c

def getM (l : List (α × Value)) (a : α) : Option Value :=
  match l with
  | [] => none
  | (b, v) :: l => if a = b then some v else getM l a
def setM (l : List (α × Value)) (a : α) (v : Value) : List (α × Value) :=
  match l with
  | [] => [(a, v)]
  | (b, u) :: l => if a = b then (a, v) :: l else (b, u) :: setM l a v
def delM (l : List (α × Value)) (a : α) : List (α × Value) :=
  match l with
  | [] => []
  | (b, u) :: l => if a = b then l else (b, u) :: delM l a

omit [DecidableEq α] in
theorem MapIs.new (key : α → Value) : MapIs key (some (.map #[] 0)) ([] : List (α × Value)) := ⟨#[], 0, rfl, rfl, by simp, by simp⟩

def findI (l : List (α × Value)) (a : α) : Nat → Option (Nat × Value)
  | i => match l with
    | [] => none
    | (b, v) :: l => if a = b then some (i, v) else findI l a (i + 1)

theorem findNow_eq {K : TypeId} {key : α → Value} {d : TypeDesc} (hd : ∀ a b, Instr.sameNow d (key a) (key b) = some (decide (a = b))) (a : α) : ∀ (es : List MapEntry) (l : List (α × Value)) (i : Nat),
    es.map (fun e => (e.key, e.val)) = l.map (fun p => (key p.1, p.2)) → Instr.findNow d (key a) es i = some (findI l a i)
  | [], [], _, _ => rfl
  | [], _ :: _, _, h => by simp at h
  | _ :: _, [], _, h => by simp at h
  | e :: es, (b, v) :: l, i, h => by
    simp only [List.map_cons, List.cons.injEq, Prod.mk.injEq] at h
    obtain ⟨⟨h1, h2⟩, h3⟩ := h
    have ih := findNow_eq (K := K) hd a es l (i + 1) h3
    unfold Instr.findNow findI
    rw [h1, hd a b]
    by_cases hab : a = b
    · simp [hab, h2]
    · simp [hab, ih]

theorem run_findKey {K : TypeId} {key : α → Value} (hk : Keys P K key) (a : α) {es : List MapEntry} {l : List (α × Value)} (h : es.map (fun e => (e.key, e.val)) = l.map (fun p => (key p.1, p.2))) (w : World) :
    (Instr.findKey K (key a) es).run P w = .ok (findI l a 0) w := by
  obtain ⟨d, h1, h2⟩ := hk.d
  unfold Instr.findKey
  simp only [bind_eq, run_bind, run_under h1, findNow_eq (K := K) h2 a es l 0 h]
  rfl

theorem findI_get (l : List (α × Value)) (a : α) : ∀ i, (findI l a i).map (·.2) = getM l a := by
  induction l with
  | nil => intro i; rfl
  | cons p l ih =>
    intro i
    obtain ⟨b, v⟩ := p
    unfold findI getM
    by_cases h : a = b
    · simp [h]
    · simp [h, ih]

theorem run_getMap {r : Nat} {es : Array MapEntry} {c : Nat} {w : World} (h : hp w r = some (.map es c)) : (getObj r).run P w = .ok (.map es c) w := by
  unfold hp at h
  show (Sem.getObj r .pure).run P w = _
  simp only [Sem.run, h]

theorem run_lookup {t K V : TypeId} {key : α → Value} {z : Value} (ht : P.underlying t = some (.map K V)) (hk : Keys P K key) (hz : (P.info? V).bind (·.zero) = some z) {r : Nat} {l : List (α × Value)} {w : World}
    (h : MapIs key (hp w r) l) (a : α) (ok : Bool) :
    (Instr.lookup t (.map (some r)) (key a) ok).run P w = .ok (if ok then .tuple #[(getM l a).getD z, .bool (getM l a).isSome] else (getM l a).getD z) w := by
  obtain ⟨es, c, h1, h2, _, _⟩ := h
  have hzv : (zeroValue V).run P w = .ok z w := by
    cases hi : P.info? V with
    | none => rw [hi] at hz; cases hz
    | some inf =>
      rw [hi] at hz
      simp only [Option.bind_some] at hz
      show (Sem.bind (Sem.bind (.program .pure) _) _).run P w = _
      simp only [Sem.bind, Sem.run, hi]
      show (match inf.zero with | some v => (pure v : Sem Value) | none => _).run P w = _
      rw [hz]
      rfl
  unfold Instr.lookup
  simp only [bind_eq, run_bind, run_under ht, run_getMap h1, run_pure, hk.ck, run_findKey hk a h2]
  have hg := findI_get l a 0
  cases hf : findI l a 0 with
  | none =>
    rw [hf] at hg
    simp only [Option.map_none] at hg
    simp only [run_bind, hzv, run_pure, ← hg]
    cases ok <;> rfl
  | some p =>
    rw [hf] at hg
    simp only [Option.map_some] at hg
    simp only [← hg]
    cases ok <;> rfl

theorem run_lookup_nil {t K V : TypeId} {key : α → Value} {z : Value} (ht : P.underlying t = some (.map K V)) (hk : Keys P K key) (hz : (P.info? V).bind (·.zero) = some z) {w : World} (a : α) (ok : Bool) :
    (Instr.lookup t (.map none) (key a) ok).run P w = .ok (if ok then .tuple #[z, .bool false] else z) w := by
  have hzv : (zeroValue V).run P w = .ok z w := by
    cases hi : P.info? V with
    | none => rw [hi] at hz; cases hz
    | some inf =>
      rw [hi] at hz
      simp only [Option.bind_some] at hz
      show (Sem.bind (Sem.bind (.program .pure) _) _).run P w = _
      simp only [Sem.bind, Sem.run, hi]
      show (match inf.zero with | some v => (pure v : Sem Value) | none => _).run P w = _
      rw [hz]
      rfl
  unfold Instr.lookup
  simp only [bind_eq, run_bind, run_under ht, run_pure, hk.ck, run_findKey hk a (es := []) (l := ([] : List (α × Value))) rfl]
  show ((zeroValue V).bind _).run P w = _
  simp only [run_bind, hzv]
  cases ok <;> rfl

theorem findI_none {l : List (α × Value)} {a : α} {v : Value} : ∀ {i}, findI l a i = none → setM l a v = l ++ [(a, v)] ∧ delM l a = l := by
  induction l with
  | nil => intro i _; exact ⟨rfl, rfl⟩
  | cons p l ih =>
    intro i h
    obtain ⟨b, u⟩ := p
    unfold findI at h
    by_cases hab : a = b
    · simp [hab] at h
    · simp only [if_neg hab] at h
      obtain ⟨h1, h2⟩ := ih h
      unfold setM delM
      simp [if_neg hab, h1, h2]

theorem findI_some {l : List (α × Value)} {a : α} {v u : Value} {j : Nat} : ∀ {i}, findI l a i = some (j, u) → i ≤ j ∧ j - i < l.length ∧ setM l a v = l.set (j - i) (a, v) ∧ delM l a = l.eraseIdx (j - i) ∧ l[j - i]? = some (a, u) := by
  induction l with
  | nil => intro i h; cases h
  | cons p l ih =>
    intro i h
    obtain ⟨b, x⟩ := p
    unfold findI at h
    by_cases hab : a = b
    · subst hab
      simp only [if_pos, Option.some.injEq, Prod.mk.injEq] at h
      obtain ⟨rfl, rfl⟩ := h
      simp [setM, delM]
    · simp only [if_neg hab] at h
      obtain ⟨h1, h2, h3, h4, h5⟩ := ih h
      have e : j - i = (j - (i + 1)) + 1 := by omega
      refine ⟨by omega, by simp; omega, ?_, ?_, ?_⟩
      · unfold setM; rw [if_neg hab, h3, e]; rfl
      · unfold delM; rw [if_neg hab, h4, e]; rfl
      · rw [e]; simpa using h5

theorem run_setMap {r : Nat} {es es' : Array MapEntry} {c c' : Nat} {w : World} (h : hp w r = some (.map es c)) : (setObj r (.map es' c')).run P w = .ok () (put w r (.map es' c')) := by
  unfold hp at h
  show (Sem.setObj r _ (.pure ())).run P w = _
  simp only [Sem.run, h]
  rfl

theorem map_modify {es : Array MapEntry} {j : Nat} {f : MapEntry → MapEntry} : (es.modify j f).toList = es.toList.modify j f := by simp

theorem run_mapUpdate {t K V : TypeId} {key : α → Value} (ht : P.underlying t = some (.map K V)) (hk : Keys P K key) {r : Nat} {l : List (α × Value)} {w : World}
    (h : MapIs key (hp w r) l) (a : α) (v : Value) : ∃ o, MapIs key (some o) (setM l a v) ∧ (unitS (Instr.mapUpdate t (.map (some r)) (key a) v)).run P w = .ok undef (put w r o) := by
  obtain ⟨es, c, h1, h2, h3, h4⟩ := h
  have hrun : ∀ es' c', (Instr.mapUpdate t (.map (some r)) (key a) v).run P w = .ok () (put w r (.map es' c')) → (unitS (Instr.mapUpdate t (.map (some r)) (key a) v)).run P w = .ok undef (put w r (.map es' c')) := by
    intro es' c' hh
    unfold unitS
    rw [run_bind, hh]
    rfl
  cases hf : findI l a 0 with
  | none =>
    obtain ⟨hs, _⟩ := findI_none (v := v) hf
    refine ⟨.map (es.push { key := key a, val := v, born := c }) (c + 1), ⟨_, _, rfl, ?_, ?_, ?_⟩, hrun _ _ ?_⟩
    · rw [hs]; simp [h2]
    · simp only [Array.toList_push, List.map_append, List.map_cons, List.map_nil]
      rw [List.nodup_append]
      refine ⟨h3, by simp, fun x hx y hy => ?_⟩
      simp at hy
      subst hy
      obtain ⟨e, he, rfl⟩ := List.mem_map.1 hx
      exact Nat.ne_of_lt (h4 e he)
    · intro e he
      simp at he
      rcases he with he | rfl
      · have := h4 e (by simpa using he); omega
      · exact Nat.lt_succ_self c
    · unfold Instr.mapUpdate
      simp only [bind_eq, run_bind, run_under ht, run_getMap h1, hk.ck, run_findKey hk a h2, hf, run_setMap h1]
  | some p =>
    obtain ⟨j, u⟩ := p
    obtain ⟨_, hj, hs, _, hget⟩ := findI_some (v := v) hf
    rw [Nat.sub_zero] at hj hs hget
    have hlen : es.toList.length = l.length := by have := congrArg List.length h2; simpa using this
    have hjs : j < es.size := by rw [← Array.length_toList]; omega
    have hkey : (es[j]).key = key a := by
      have h5 := congrArg (fun x => x[j]?) h2
      simp only [List.getElem?_map, hget, Option.map_some, Array.getElem?_toList, Array.getElem?_eq_getElem hjs] at h5
      injection h5 with h5
      injection h5 with h5 _
    refine ⟨.map (es.modify j fun e => { e with key := key a, val := v }) c, ⟨_, _, rfl, ?_, ?_, ?_⟩, hrun _ _ ?_⟩
    · rw [hs, map_modify]
      apply List.ext_getElem?
      intro i
      have h5 := congrArg (fun x => x[i]?) h2
      simp only [List.getElem?_map, List.getElem?_set, List.getElem?_modify] at h5 ⊢
      by_cases hij : j = i
      · subst hij
        simp [hj, hjs]
      · simp only [hij, if_false]
        cases hx : es.toList[i]? with
        | none => rw [hx] at h5; simpa using h5
        | some e => rw [hx] at h5; simpa using h5
    · rw [map_modify]
      have : (es.toList.modify j fun e => { e with key := key a, val := v }).map (·.born) = es.toList.map (·.born) := by
        apply List.ext_getElem?
        intro i
        simp only [List.getElem?_map, List.getElem?_modify]
        cases es.toList[i]? with
        | none => rfl
        | some e => by_cases hij : j = i <;> simp [hij]
      rw [this]
      exact h3
    · intro e he
      rw [map_modify] at he
      obtain ⟨i, hi⟩ := List.mem_iff_getElem?.1 he
      rw [List.getElem?_modify] at hi
      cases hx : es.toList[i]? with
      | none => rw [hx] at hi; cases hi
      | some e0 =>
        rw [hx] at hi
        have := h4 e0 (List.mem_of_getElem? hx)
        by_cases hij : j = i
        · simp [hij] at hi; subst hi; exact this
        · simp [hij] at hi; subst hi; exact this
    · have hst : (Instr.keyThatStays (((es[j]?).map (·.key)).getD (key a)) (key a)).run P w = .ok (key a) w := by
        rw [Array.getElem?_eq_getElem hjs]
        simp only [Option.map_some, Option.getD_some, hkey]
        unfold Instr.keyThatStays
        rw [if_pos (hk.bits a)]
        rfl
      unfold Instr.mapUpdate
      simp only [bind_eq, run_bind, run_under ht, run_getMap h1, hk.ck, run_findKey hk a h2, hf, hst, run_setMap h1]

theorem run_delete {t K V ty : TypeId} {ats : Array TypeId} {key : α → Value} (hat : ats[0]? = some t) (ht : P.underlying t = some (.map K V)) (hk : Keys P K key) {r : Nat} {l : List (α × Value)} {w : World}
    (h : MapIs key (hp w r) l) (a : α) : ∃ o, MapIs key (some o) (delM l a) ∧ (Builtin.delete_ ats ty #[.map (some r), key a]).run P w = .ok (.tuple #[]) (put w r o) := by
  obtain ⟨es, c, h1, h2, h3, h4⟩ := h
  cases hf : findI l a 0 with
  | none =>
    obtain ⟨_, hs⟩ := findI_none (v := undef) hf
    refine ⟨.map es c, ⟨_, _, rfl, by rw [hs]; exact h2, h3, h4⟩, ?_⟩
    unfold Builtin.delete_
    simp only [hat, List.getElem?_toArray, List.getElem?_cons_zero, List.getElem?_cons_succ, bind_eq, run_bind, run_under ht, run_getMap h1, hk.ck, run_findKey hk a h2, hf, run_setMap h1, run_pure]
  | some p =>
    obtain ⟨j, u⟩ := p
    obtain ⟨_, hj, _, hs, hget⟩ := findI_some (v := undef) hf
    rw [Nat.sub_zero] at hj hs hget
    have hlen : es.toList.length = l.length := by have := congrArg List.length h2; simpa using this
    have hjs : j < es.size := by rw [← Array.length_toList]; omega
    have her : (es.eraseIdxIfInBounds j).toList = es.toList.eraseIdx j := by
      unfold Array.eraseIdxIfInBounds
      rw [dif_pos hjs]
      simp
    refine ⟨.map (es.eraseIdxIfInBounds j) c, ⟨_, _, rfl, ?_, ?_, ?_⟩, ?_⟩
    · rw [her, hs]
      rw [List.eraseIdx_eq_take_drop_succ, List.eraseIdx_eq_take_drop_succ, List.map_append, List.map_append, List.map_take, List.map_drop, List.map_take, List.map_drop, h2]
    · rw [her]
      exact (List.Sublist.map _ (List.eraseIdx_sublist _ _)).nodup h3
    · rw [her]
      intro e he
      exact h4 e ((List.eraseIdx_sublist _ _).subset he)
    · unfold Builtin.delete_
      simp only [hat, List.getElem?_toArray, List.getElem?_cons_zero, List.getElem?_cons_succ, bind_eq, run_bind, run_under ht, run_getMap h1, hk.ck, run_findKey hk a h2, hf, run_setMap h1, run_pure]

omit [DecidableEq α] in
theorem run_lenMap {t K V ty : TypeId} {ats : Array TypeId} {key : α → Value} (hat : ats[0]? = some t) (ht : P.underlying t = some (.map K V)) {r : Nat} {l : List (α × Value)} {w : World}
    (h : MapIs key (hp w r) l) : (Builtin.len_ ats ty #[.map (some r)]).run P w = .ok (I l.length) w := by
  obtain ⟨es, c, h1, h2, h3, h4⟩ := h
  have hlen : es.size = l.length := by have := congrArg List.length h2; simpa using this
  unfold Builtin.len_
  simp only [hat, List.getElem?_toArray, List.getElem?_cons_zero, bind_eq, run_bind, run_under ht, run_getMap h1, run_pure, hlen]
  rfl
end
end Go.Dc
