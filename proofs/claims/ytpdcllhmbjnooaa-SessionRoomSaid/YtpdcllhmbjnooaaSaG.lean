/- Whatever the number and the ops, SessionRoom returns true, and its arguments read as they did; without a condition. -/
import Derived.Test.YtpdcllhmbjnooaaRt
import Derived.Carry
namespace Go.Proofs.Ytpdcllhmbjnooaa
open Go.ChangeShapes Go.WideShapes Go.ChangeAt Go.RowKit
open Go.Dc (Ext hp Ret)

set_option maxRecDepth 10000

set_option maxRecDepth 100000 in
theorem sessionRoom_lifted (os : Os) (started : os.Started) (H : Type) (enc : TypeId × Value → H) :
    ReturnsInHanded {} Try.checked os 7 .any (Rows.sessionRoomSpec.pre6 enc Try.prog Try.f7 Rows.sessionRoomRow.domain false) (Rows.sessionRoomSpec.post enc Try.prog Try.f7 false true false false) := by
  refine returnsInHanded_of_change (C := Try.checked) own_Ytpdcllhmbjnooaa started (by kernel_rfl) Try.func7
    (ChangeSpec.witness6 (enc := enc) (C := Try.checked) false ⟨#[], #[.int .u32 0, .slice none 0 0], []⟩ 8 (by kernel_rfl) (by kernel_rfl) (by kernel_rfl) (by kernel_rfl)) ?_
  intro W base args ds gs before hval0 hW hcnd _
  have hval : ∀ (j : Nat) t v, Try.f7.params[j]? = some t → args[j]? = some v → Value.okWide Try.prog W .any base t v := hval0
  have hW' := hW
  obtain ⟨p, q, hA0, hV, rfl, hfz, hnd⟩ := hW
  have hA : DataW.TrodAll enc Try.prog W 0 (fun _ => true) true Try.f7.params.toList args.toList ds p := hA0
  rw [Try.params7] at hA hval
  obtain ⟨v0, v1, d0, d1, p0, p1, hargs, rfl, rfl, h0, h1⟩ := trodAll_two hA
  subst hargs
  obtain ⟨rfl, rfl⟩ := trodVars_none hV
  obtain ⟨a, rfl, rfl, rfl, wa⟩ := open_int Try.underlying22 (hval 0 22 v0 rfl rfl) h0
  have ba := bounds_u32 wa
  have ea : a = (a.toNat : Int) := (Int.toNat_of_nonneg ba.1).symm
  have hone : v1.oneCell' = true := by
    have := hval 1 62 v1 rfl rfl
    unfold Value.okWide at this
    rw [Try.underlying62] at this
    exact cell_one this
  have hlt : ∀ x ∈ p1, x.block < W.heap.size := fun x hx => hW'.lt x (by simp [hx])
  have again : ∀ W', Ext [] W W' → DataW.Trod enc Try.prog W' 0 (fun b => decide (b < W.heap.size)) true 62 v1 d1 p1 := fun W' hE =>
    Below.trod laid_Ytpdcllhmbjnooaa (by kernel_rfl) (of_decide_eq_true (by kernel_rfl)) h1 (below_of hE) hlt
  refine Calls.mono (calls_of (Q := fun v W' => v = .bool true ∧ Ext [] W W') Try.func7 (by kernel_rfl) (by kernel_rfl) ?_) fun e W' ⟨v, he, hv, hE⟩ => ?_
  · rw [ea]
    exact SessionRoom_spec (by omega) (fun w' hx => rd_ops hone (again w' hx) rfl) fun W' hE => ⟨rfl, hE⟩
  · subst hv
    have hbelow := below_of hE
    refine ⟨_, he, _, _, _, [], [] ++ p1, [], hW', trodAll_mk1 (shut_bool Try.underlying4 true), ?_, rfl, hbelow.frame _, fun h => by cases h⟩
    exact trodAll_mk2 (shut_int Try.underlying22 wa) (again W' hE)

theorem sessionRoom_holds : Rows.SessionRoomSaid :=
  OpenClaim.holds_of_wide 7 Try.f7 rfl rfl rfl rfl rfl rfl rfl ⟨rfl, rfl, rfl, rfl, rfl⟩ rfl rfl rfl rfl rfl (by kernel_rfl) Try.func7 (by kernel_rfl)
    (of_decide_eq_true (by kernel_rfl)) (by unfold Func.isWrapper; rw [if_neg (of_decide_eq_false (by kernel_rfl))]; exact ⟨rfl, rfl⟩)
    (fun os started H enc _ => sessionRoom_lifted os started H enc)

#print axioms sessionRoom_holds
end Go.Proofs.Ytpdcllhmbjnooaa
