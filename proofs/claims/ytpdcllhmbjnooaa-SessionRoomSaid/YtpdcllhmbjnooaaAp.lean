/- Lists that grow: append at a slice that has a block of its own. -/
import Derived.Test.YtpdcllhmbjnooaaLj
import Derived.OwnWalk
namespace Go.Dc

theorem ext_of_grown {w w' : World} {row : Option Nat} {S : List Nat} (h : w.grownBy w' row) (hS : ∀ g, row = some g → g ∈ S) : Ext S w w' :=
  ⟨h.os, h.tape, h.output, h.size, fun b hb hs => h.block b hb (fun e => hs (hS b e.symm))⟩

/-- The block of a list, as a list. -/
def ob (v : Value) : List Nat :=
  match v with
  | .slice (some a) _ _ => [a.block]
  | _ => []

theorem ob_eq (v : Value) : ob v = v.ownBlock.toList := by
  cases v <;> try rfl
  rename_i a n c
  cases a <;> rfl

section
variable {P : Program}
theorem run_append_mine (w : World) (base : Nat) (t ty e : TypeId) {z : Value} {size bytes : Nat} (ht : P.underlying t = some (.slice e)) (hi : (P.info? e).map (fun i => (i.zero, i.size, i.bytes)) = some (some z, size, bytes))
    (hzs : z.cells.size = size) (hsz : 0 < size) (v : Value) (n : Nat) (xs : List Value) (hown : w.ownsRow base e size v n xs)
    (a : Addr) (m c : Nat) (news : List Value) (hl : news.length = m * size) (hnews : ∀ j u, news[j]? = some u → w.cell? (a.add j) = some u) (h1 : ∀ u ∈ news, u.oneCell' = true)
    (h63 : n + m ≤ maxLen) (hbytes : (n + m) * bytes ≤ 140737488355328) (hbase : base ≤ w.heap.size) :
    ∃ v' w', (Builtin.append_ #[t, t] ty #[v, .slice (some a) m c]).run P w = .ok v' w' ∧ w'.ownsRow base e size v' (n + m) (xs ++ news) ∧ w.grownBy w' v.ownBlock ∧
      (v' = .slice none 0 0 ↔ v = .slice none 0 0 ∧ m = 0) ∧ (v'.ownBlock = v.ownBlock ∨ v'.ownBlock = some w.heap.size) ∧ w'.ownsRow base e size v n xs := by
  obtain ⟨i, hi', hz, hsize, hby⟩ := info_parts hi
  clear hi; have hi := hi'; clear hi'
  obtain ⟨v', w', g1, g2, g3, g4⟩ := run_append_own w base t ty e i z size bytes ht hi hz hsize hby hzs hsz v n xs hown a m c news hl hnews h1 h63 hbytes hbase
  refine ⟨v', w', g1, g2, g3, g4, ?_⟩
  subst hsize
  subst hby
  have hsmall : n + m ≤ 9223372036854775807 := by simp only [maxLen] at h63; omega
  rcases hown.2 with ⟨rfl, rfl⟩ | ⟨g, cap, cur, rfl, hbg, hg, hnc, hcm, hcs, htake⟩
  · refine ⟨?_, hown.1, .inl ⟨rfl, rfl⟩⟩
    by_cases hm : m = 0
    · left; rw [g4.2 ⟨rfl, hm⟩]
    · have hr := run_append_nil (P := P) w t ty e i z ht hi hz a m c news hl hnews (by omega) (by omega) (by have hb := hbytes; simp only [Nat.zero_add] at hb; omega)
      rw [hr] at g1
      injection g1 with g1 _
      right; rw [← g1]; rfl
  · by_cases hroom : n + m ≤ cap
    · have hfit : n * i.size + news.length ≤ cur.size := by rw [hl, hcs, ← Nat.add_mul]; exact Nat.mul_le_mul_right _ hroom
      have hr := run_append_room (P := P) w t ty e i ht hi g n cap cur hg a m c news hl hnews h1 hroom hfit
      rw [hr] at g1
      injection g1 with g1 g1'
      refine ⟨by left; rw [← g1]; rfl, hown.1, .inr ⟨g, cap, _, rfl, hbg, by rw [← g1']; exact setRow_heap w g cur _ e _ hg, hnc, hcm, ?_, ?_⟩⟩
      · simp only [List.size_toArray, List.length_append, List.length_take, List.length_drop, Array.length_toList]
        omega
      · simp only [htake]
        rw [List.append_assoc, ← hown.1, List.take_left]
    · have holds : ∀ j u, xs[j]? = some u → w.cell? ((⟨g, 0, none⟩ : Addr).add j) = some u := hown.cells (g := g) rfl
      have hr := run_append_grow (P := P) w t ty e i z ht hi hz ⟨g, 0, none⟩ n cap xs hown.1 holds a m c news hl hnews (by omega) (by omega) (growslice_fits (by omega) hbytes)
      rw [hr] at g1
      injection g1 with g1 g1'
      refine ⟨by right; rw [← g1]; rfl, hown.1, .inr ⟨g, cap, cur, rfl, hbg, ?_, hnc, hcm, hcs, htake⟩⟩
      rw [← g1', heap_alloc_old w.drew _ g (Array.getElem?_eq_some_iff.1 hg).1]
      exact hg
end

/-- A slice of n elements in a block of its own, all of it (what cap lets in) its own. -/
structure Vec (w : World) (base : Nat) (e sz : Nat) (v : Value) (n : Nat) (xs : List Value) : Prop where
  row : w.ownsRow base e sz v n xs

theorem Vec.nil (w : World) (base : Nat) (e sz : Nat) : Vec w base e sz (.slice none 0 0) 0 [] := ⟨World.ownsRow_nil w base e sz⟩
theorem Vec.ob_ge {w : World} {base e sz : Nat} {v : Value} {n : Nat} {xs : List Value} (h : Vec w base e sz v n xs) : ∀ b ∈ ob v, base ≤ b ∧ b < w.heap.size := by
  intro b hb
  rcases h.row.2 with ⟨rfl, _⟩ | ⟨g, cap, cur, rfl, h1, h2, _⟩
  · simp [ob] at hb
  · simp [ob] at hb
    subst hb
    exact ⟨h1, (Array.getElem?_eq_some_iff.1 h2).1⟩
theorem Vec.ext {w w' : World} {base e sz : Nat} {v : Value} {n : Nat} {xs : List Value} {S : List Nat} (h : Vec w base e sz v n xs) (x : Ext S w w') (hS : ∀ b ∈ ob v, b ∉ S) : Vec w' base e sz v n xs := by
  refine ⟨h.row.1, ?_⟩
  rcases h.row.2 with hn | ⟨g, cap, cur, rfl, hb, hg, rest⟩
  · exact .inl hn
  · refine .inr ⟨g, cap, cur, rfl, hb, ?_, rest⟩
    have := x.same g (Array.getElem?_eq_some_iff.1 hg).1 (hS g (by simp [ob]))
    unfold hp at this
    rw [this]
    exact hg
theorem Vec.base {w : World} {base base' e sz : Nat} {v : Value} {n : Nat} {xs : List Value} (h : Vec w base e sz v n xs) (hb : base' ≤ base) : Vec w base' e sz v n xs := by
  refine ⟨h.row.1, ?_⟩
  rcases h.row.2 with hn | ⟨g, cap, cur, rfl, h1, rest⟩
  · exact .inl hn
  · exact .inr ⟨g, cap, cur, rfl, Nat.le_trans hb h1, rest⟩
theorem Vec.len {w : World} {base e sz : Nat} {v : Value} {n : Nat} {xs : List Value} (h : Vec w base e sz v n xs) : ∃ a c, v = .slice a n c := by
  rcases h.row.2 with ⟨rfl, rfl⟩ | ⟨g, cap, cur, rfl, _⟩
  · exact ⟨none, 0, rfl⟩
  · exact ⟨_, _, rfl⟩
/-- Where there is something in it, where it lies. -/
theorem Vec.some {w : World} {base e sz : Nat} {v : Value} {n : Nat} {xs : List Value} (h : Vec w base e sz v n xs) (hn : 0 < n) :
    ∃ g cap cur, v = .slice (Option.some ⟨g, 0, none⟩) n cap ∧ hp w g = Option.some (.cells cur e (0, 0)) ∧ ∀ (j : Nat) (u : Value), xs[j]? = Option.some u → cur[j]? = Option.some u := by
  rcases h.row.2 with ⟨rfl, h0⟩ | ⟨g, cap, cur, rfl, h1, h2, _, _, _, h3⟩
  · omega
  · refine ⟨g, cap, cur, rfl, h2, fun j u hu => ?_⟩
    rw [← h3, List.getElem?_take] at hu
    split at hu
    · simpa using hu
    · cases hu

end Go.Dc
namespace Go.Proofs.Ytpdcllhmbjnooaa
open Go.Dc
set_option maxRecDepth 10000

/-- append(v, x..): the block of v, or a new one, has all of it then. -/
theorem append_spec {w : World} {base : Nat} {t ty e : TypeId} {z : Value} {sz bytes : Nat} (ht : pg.underlying t = some (.slice e)) (hi : (pg.info? e).map (fun i => (i.zero, i.size, i.bytes)) = some (some z, sz, bytes))
    (hzs : z.cells.size = sz) (hsz : 0 < sz) {v : Value} {n : Nat} {xs : List Value} (hown : Vec w base e sz v n xs)
    {g m c : Nat} {cs : Array Value} {T : TypeId} {fr : Nat × Nat} (hg : hp w g = some (.cells cs T fr)) (hl : cs.size = m * sz) (h1 : ∀ u ∈ cs, u.oneCell' = true)
    (h63 : n + m ≤ maxLen) (hbytes : (n + m) * bytes ≤ 140737488355328) (hbase : base ≤ w.heap.size) {K : Cont}
    (h : ∀ v' w', Ext (ob v) w w' → Vec w' base e sz v' (n + m) (xs ++ cs.toList) → Vec w' base e sz v n xs → (ob v' = ob v ∨ ob v' = [w.heap.size]) → K v' w') :
    b_append #[t, t] ty #[v, .slice (some ⟨g, 0, none⟩) m c] K w := by
  obtain ⟨v', w', g1, g2, g3, g4, g5, g6⟩ := run_append_mine (P := pg) w base t ty e ht hi hzs hsz v n xs hown.row ⟨g, 0, none⟩ m c cs.toList (by simpa using hl)
    (fun j u hu => by
      rw [addr_add, cell_heap, hg, cellOf_some, Nat.zero_add, ← Array.getElem?_toList]
      exact hu) (fun u hu => h1 u (by simpa using hu)) h63 hbytes hbase
  unfold b_append
  rw [Run_ok g1]
  refine h v' w' (ext_of_grown g3 fun g hg => ?_) ⟨g2⟩ ⟨g6⟩ ?_
  · rw [ob_eq, hg]; simp
  · rw [ob_eq, ob_eq]
    rcases g5 with g5 | g5
    · exact .inl (by rw [g5])
    · exact .inr (by rw [g5]; rfl)
end Go.Proofs.Ytpdcllhmbjnooaa
