/- slices.Collect(maps.Keys(m)) at numbers (uint64). -/
import Derived.Test.YtpdcllhmbjnooaaItB
namespace Go.Proofs.Ytpdcllhmbjnooaa
open Go.Dc Go.Maps Go.RowKit Go.Sort Go.Shelf
set_option maxRecDepth 10000

/-- A list of numbers in a block of its own. -/
def RowU (w : World) (base : Nat) (v : Value) (ss : List Int) : Prop :=
  (v = .slice none 0 0 ∧ ss = []) ∨ ∃ g cap cur, v = .slice (some ⟨g, 0, none⟩) ss.length cap ∧ base ≤ g ∧ hp w g = some (.cells cur 23 (0, 0)) ∧ ss.length ≤ cap ∧ cur.size = cap ∧ cur.toList.take ss.length = ss.map encU

theorem collect_spec {w : World} {b Bm : Nat} {l : List (Int × Value)} {Q : Cont} (hm : cellOf (hp w Bm) 0 = some (.map (some b))) (hb : MapIs encU (hp w b) l) (hnd : (l.map (·.1)).Nodup) (hwf : ∀ p ∈ l, (Lit.int .u64 p.1).wf = true) (hlen : l.length ≤ 1000000)
    (h : ∀ w' v ss, Ext [] w w' → ss.Perm (l.map (·.1)) → RowU w' w.heap.size v ss → Q v w') :
    Ret pg n_slices_Collect_uint64 #[.func (.func n_maps_Keys_map_uint64_session_session_uint64_session_session_1) #[] #[pt Bm 0]] Q w := by
  apply slices_Collect_uint64_ok
  unfold slices_Collect_uint64
  obtain ⟨D, hown, hhas, hsz⟩ := owns_u64 hb hnd hwf (by unfold maxLen; omega)
  have hBm : Bm < w.heap.size := by
    cases hx : hp w Bm with
    | none => rw [hx] at hm; cases hm
    | some o => exact lt_of_hp hx
  have hseq := keys_gives 2 (by omega) Bm b l.length D w hBm (by have := hm; unfold World.cell?; unfold cellOf hp at this; simp; revert this; cases w.heap[Bm]? with | none => exact id | some o => cases o <;> exact id) hown
  have key := (callsIn_wide (n := 3)).1 (appendSeq_in 3 (by omega) n_maps_Keys_map_uint64_session_session_uint64_session_session_1 #[pt Bm 0] (enters_of Try.func66 (by kernel_rfl) rfl) (CollU D (fun _ => false)) (Maps.size D) (by rw [hsz]; unfold maxLen; omega) (by rw [hsz]; omega) w hseq)
  refine ret_sound Try.func81 (by kernel_rfl) (by kernel_rfl) (Calls.mono key ?_)
  rintro e w' ⟨v, ss, rfl, hS, hrow, hnil, hbl⟩
  refine h w' v ss ⟨hbl.os, hbl.tape, hbl.output, hbl.size, fun k hk _ => hbl.block k hk⟩ ?_ ?_
  · refine (List.perm_ext_iff_of_nodup hS.1 hnd).2 fun x => ?_
    rw [hS.2 x, hhas x]
    simp
  · rcases hrow.2 with ⟨rfl, hz⟩ | ⟨g, cap, cur, rfl, h1, h2, h3, h4, h5, h6⟩
    · exact .inl ⟨rfl, List.eq_nil_of_length_eq_zero hz⟩
    · exact .inr ⟨g, cap, cur, rfl, h1, h2, h3, by simpa using h5, by simpa using h6⟩
end Go.Proofs.Ytpdcllhmbjnooaa
