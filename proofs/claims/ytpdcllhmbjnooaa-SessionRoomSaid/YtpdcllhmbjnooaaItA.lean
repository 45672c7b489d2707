/- The keys of a map, each once, in some order: for maps whose keys are numbers (uint64). -/
import Derived.Test.YtpdcllhmbjnooaaFa
import Derived.Test.YtpdcllhmbjnooaaS0
import Derived.Maps.Range
import Derived.Maps.Keyed
import Derived.Maps.RangeWalk
import Derived.Sort.MapsRangeIn
import Derived.RangeFuncSeq
import Derived.RangeFuncGives
import Derived.WalkKit
import Derived.OwnWalkIn
import Derived.TacticsInMore
import Derived.RegionIn
import Derived.LoopNIn
import Derived.LoopIn
namespace Go.Proofs.Ytpdcllhmbjnooaa
open Go.Dc Go.Maps Go.RowKit
open Go.WideShapes (sorted_perm)
open Go.WideElems (Fit rd rg pl rd_key rd_val rg_of)
set_option maxRecDepth 10000

abbrev encU (n : Int) : Value := .int .u64 n
/-- Values read as nothing. -/
def R0 (_ : Value) : Option (DataW Unit × List MemPlace) := some (.nil, [])

theorem key_u64 : pg.underlying 23 = some (.int .u64) := by kernel_rfl

theorem rd_u64 {e : MapEntry} {n : Int} (he : e.key = encU n) (hw : (Lit.int .u64 n).wf = true) : rd pg 23 R0 e = some (.int .u64 n, .nil) := by
  unfold rd
  rw [he]
  simp [keyOf, mapKey, hw, R0]

theorem owns_u64 {w : World} {b : Nat} {l : List (Int × Value)} (h : MapIs encU (hp w b) l) (hnd : (l.map (·.1)).Nodup) (hwf : ∀ p ∈ l, (Lit.int .u64 p.1).wf = true) (hlen : l.length ≤ maxLen) :
    ∃ D : DataW Unit, w.ownsMap pg 23 R0 b l.length D ∧ (∀ x, has D (.int .u64 x) = true ↔ x ∈ l.map (·.1)) ∧ size D = l.length := by
  obtain ⟨es, c, h1, h2, h3, h4⟩ := h
  have hl : es.toList.length = l.length := by have := congrArg List.length h2; simpa using this
  have hk : es.toList.map (·.key) = l.map fun p => encU p.1 := by
    have := congrArg (List.map Prod.fst) h2
    simpa [List.map_map, Function.comp_def] using this
  have hent : ∀ e ∈ es.toList, ∃ p ∈ l, e.key = encU p.1 := by
    intro e he
    have : e.key ∈ l.map fun p => encU p.1 := by rw [← hk]; exact List.mem_map.2 ⟨e, he, rfl⟩
    obtain ⟨p, hp, e1⟩ := List.mem_map.1 this
    exact ⟨p, hp, e1.symm⟩
  have F : Fit pg 23 R0 es c := by
    refine ⟨by have : es.size = l.length := (by simpa using hl); omega, ⟨h4, h3, ?_⟩, fun e he => ?_⟩
    · rw [hk]
      refine List.pairwise_map.2 ?_
      rw [List.nodup_iff_pairwise_ne, List.pairwise_map] at hnd
      exact hnd.imp fun hne e => hne (by simpa [encU] using e)
    · obtain ⟨p, hp, e1⟩ := hent e he
      exact ⟨_, rd_u64 e1 (hwf p hp)⟩
  refine ⟨_, ⟨es, c, h1, F, by simp [← hl], rfl⟩, fun x => ?_, ?_⟩
  · rw [has_eq, List.any_eq_true]
    constructor
    · rintro ⟨p, hp, hs⟩
      rw [mem_sorted] at hp
      obtain ⟨e, he, rfl⟩ := List.mem_map.1 hp
      obtain ⟨q, hq, e1⟩ := hent e he
      rw [rg_of (rd_u64 e1 (hwf q hq))] at hs
      simp [Lit.sameKey] at hs
      exact List.mem_map.2 ⟨q, hq, hs⟩
    · intro hx
      obtain ⟨q, hq, rfl⟩ := List.mem_map.1 hx
      have : encU q.1 ∈ es.toList.map (·.key) := by rw [hk]; exact List.mem_map.2 ⟨q, hq, rfl⟩
      obtain ⟨e, he, e1⟩ := List.mem_map.1 this
      refine ⟨_, mem_sorted.2 (List.mem_map.2 ⟨e, he, rfl⟩), ?_⟩
      rw [rg_of (rd_u64 e1 (hwf q hq))]
      simp [Lit.sameKey]
  · rw [size_eq]
    have := (sorted_perm (es.toList.map (Go.WideElems.rg pg 23 R0))).length_eq
    rw [this]
    simpa using hl

/-- No key twice; those are on the list that the map has and that are no longer to come. -/
def CollU (D : DataW Unit) (left : Lit → Bool) (ss : List Int) : Prop := ss.Nodup ∧ ∀ x, x ∈ ss ↔ (has D (.int .u64 x) = true ∧ left (.int .u64 x) = false)

theorem CollU.start (D : DataW Unit) : CollU D (has D) [] := ⟨List.nodup_nil, fun x => by cases has D (.int .u64 x) <;> simp⟩
theorem CollU.step {D : DataW Unit} {left : Lit → Bool} {ss : List Int} (h : CollU D left ss) {x : Int} {y : DataW Unit} (hlk : left (.int .u64 x) = true) (hat : ∀ zd, D.atKey (.int .u64 x) zd = y) : CollU D (fun z => left z && !z.sameKey (.int .u64 x)) (ss ++ [x]) := by
  have hhas : has D (.int .u64 x) = true := has_true_of_atKey hat
  have hnew : x ∉ ss := fun hx => by have := ((h.2 x).1 hx).2; rw [hlk] at this; cases this
  refine ⟨List.nodup_append.2 ⟨h.1, by simp, fun a ha b hb => by simp at hb; subst hb; exact fun e => hnew (e ▸ ha)⟩, fun z => ?_⟩
  by_cases hz : z = x
  · subst hz; simp [hhas, Lit.sameKey]
  · simp [h.2 z, hz, Lit.sameKey]

set_option maxRecDepth 100000 in
set_option maxHeartbeats 1000000 in
/-- The iterator that maps.Keys hands back: whatever the caller keeps between rounds, the keys come, each once, in some order. -/
theorem keys1_in (n : Nat) (hn : 1 ≤ n) (l Bm b nn : Nat) (D0 : DataW Unit) (J : List Int → World → Prop)
    (hY : ∀ pre x W, J pre W → pre.length < Maps.size D0 → YieldAt Fence.wide (n - 1) pg l #[encU x] W fun e W' => e = .returned (.bool true) ∧ J (pre ++ [x]) W' ∧ KeepsWalks W W')
    (W : World) (hJ : AbidesFrom W.heap.size J) (hm : W.cell? ⟨Bm, 0, none⟩ = some (.map (some b))) (hown : W.ownsMap pg 23 R0 b nn D0) (h0 : J [] W) :
    CallsIn Fence.wide n pg n_maps_Keys_map_uint64_session_session_uint64_session_session_1 #[.func (.yield l) #[] #[], .pointer (some ⟨Bm, 0, none⟩)] W fun e W' => (∃ v, e = .returned v) ∧ ∃ ss : List Int, CollU D0 (fun _ => false) ss ∧ J ss W' := by
  have h66 : Fence.wide.fn 66 := trivial
  refine callsIn_of_wp Try.func66 rfl h66 ?_ rfl
  simp only [Try.ntmps66, List.size_toArray, List.length_cons, List.length_nil, Nat.reduceAdd, Nat.reduceSub, Array.replicate_succ, Array.replicate_zero, List.push_toArray, List.append_toArray, List.nil_append, List.cons_append]
  gi_wp2_with (first
    | (gi_at_range; refine wpListIn_range_own _ rfl _ 82 rfl 23 86 (int_keyed key_u64) (by kernel_rfl) _ b nn _ rfl hown ?_; intro w0 hrg0 hg0 hs0)
    | gi_in)
  go_frame
  gi_loopw [3] (fun _ wr => ∃ (left : Lit → Bool) (cnt : Nat) (ss : List Int), wr.ranges pg 23 R0 b W.heap.size nn D0 left cnt ∧ ss.length + cnt ≤ Maps.size D0 ∧ CollU D0 left ss ∧ J ss wr)
    (fun _ wr => wr.rangeLeft b W.heap.size)
  case atStart =>
    exact ⟨_, _, [], hrg0, by simp, CollU.start D0, hJ [] W w0 none h0 hg0 (fun r e => by cases e)⟩
  case round =>
    obtain ⟨left, cnt, ss, hrg, hcs, hC, hJs⟩ := hrel
    gi_wp2_with (first
      | (gi_at_next; refine wpListIn_next_ranges _ rfl _ rfl 23 (int_keyed key_u64) R0 encU id (fun key kl hk => by obtain ⟨x, hx, _⟩ := Maps.keyOf_int_inv key_u64 hk; exact ⟨x, hx⟩) (fun v _ _ => ⟨v, rfl⟩) b W.heap.size nn _ _ _ rfl hrg ?_ ?_)
      | gi_in)
    · intro hc0 hl0
      gi_wp2
      go_end0
      exact ⟨⟨_, rfl⟩, ss, ⟨hC.1, fun x => by rw [hC.2 x, hl0]⟩, hJs⟩
    · intro x c kl yd yp w2 cnt2 hkey hlk hv hat hrg2 hlt hg2 hs2 hen
      obtain ⟨x', ex, rfl, _⟩ := Maps.keyOf_int_inv key_u64 hkey
      obtain rfl : x = x' := by simpa [encU] using ex
      have hJ2 : J ss w2 := hJ ss wr w2 (some W.heap.size) hJs hg2 (fun r e => by cases e; exact ⟨Nat.le_refl _, hrg.iter_walk⟩)
      obtain ⟨fn, tmps, assign, body, hy, hR⟩ := hY ss x w2 hJ2 (by omega)
      clear hs2
      gi_wp2
      refine hR.mono ?_
      rintro e W3 ⟨rfl, hJ3, hk3⟩
      gi_wp2
      have hrg3 := hrg2.of_walks hk3
      go_roundw
      case rel => exact ⟨_, cnt2, ss ++ [x], hrg3, by simp; omega, hC.step hlk hat, hJ3⟩
      case measure => rw [hrg3.left_eq, hrg.left_eq]; exact hlt

/-- maps.Keys(m) hands back an iterator over m's keys. -/
theorem keys_gives (n : Nat) (hn : 1 ≤ n) (Bm b nn : Nat) (D0 : DataW Unit) (w : World) (hBm : Bm < w.heap.size) (hm : w.cell? ⟨Bm, 0, none⟩ = some (.map (some b))) (hown : w.ownsMap pg 23 R0 b nn D0) :
    SeqGives Fence.wide n pg n_maps_Keys_map_uint64_session_session_uint64_session_session_1 #[.pointer (some ⟨Bm, 0, none⟩)] encU (CollU D0 (fun _ => false)) (Maps.size D0) w := fun l J W hW hJ hY h0 => by
  have hown' : W.ownsMap pg 23 R0 b nn D0 := by
    have hbl := hown.lt
    obtain ⟨es, clock, hb, Ft, hs, hD⟩ := hown
    exact ⟨es, clock, (hW.block b hbl).trans hb, Ft, hs, hD⟩
  exact keys1_in n hn l Bm b nn D0 J hY W hJ ((hW.cell (p := ⟨Bm, 0, none⟩) hBm).trans hm) hown' h0
end Go.Proofs.Ytpdcllhmbjnooaa
