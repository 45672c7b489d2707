/- Whatever the numbers, SessionAway returns true, and its arguments read as they did; without a condition. -/
import Derived.Test.YtpdcllhmbjnooaaSaD
import Derived.Test.YtpdcllhmbjnooaaFr
namespace Go.Proofs.Ytpdcllhmbjnooaa
open Go.ChangeShapes Go.WideShapes Go.ChangeAt Go.RowKit
open Go.Dc (Ext hp Ret)

set_option maxRecDepth 10000

set_option maxRecDepth 100000 in
theorem sessionAway_lifted (os : Os) (started : os.Started) (H : Type) (enc : TypeId × Value → H) :
    ReturnsInHanded {} Try.checked os 5 .any (Rows.sessionAwaySpec.pre6 enc Try.prog Try.f5 Rows.sessionAwayRow.domain false) (Rows.sessionAwaySpec.post enc Try.prog Try.f5 false true false false) := by
  refine returnsInHanded_of_change (C := Try.checked) own_Ytpdcllhmbjnooaa started (by kernel_rfl) Try.func5
    (ChangeSpec.witness6 (enc := enc) (C := Try.checked) false ⟨#[], #[.int .u32 0, .int .u32 0, .int .u8 0], []⟩ 8 (by kernel_rfl) (by kernel_rfl) (by kernel_rfl) (by kernel_rfl)) ?_
  intro W base args ds gs before hval0 hW hcnd _
  have hval : ∀ (j : Nat) t v, Try.f5.params[j]? = some t → args[j]? = some v → Value.okWide Try.prog W .any base t v := hval0
  have hW' := hW
  obtain ⟨p, q, hA0, hV, rfl, hfz, hnd⟩ := hW
  have hA : DataW.TrodAll enc Try.prog W 0 (fun _ => true) true Try.f5.params.toList args.toList ds p := hA0
  rw [Try.params5] at hA hval
  obtain ⟨v0, v1, v2, d0, d1, d2, p0, p1, p2, hargs, rfl, rfl, h0, h1, h2⟩ := trodAll_three hA
  subst hargs
  obtain ⟨rfl, rfl⟩ := trodVars_none hV
  obtain ⟨a, rfl, rfl, rfl, wa⟩ := open_int Try.underlying22 (hval 0 22 v0 rfl rfl) h0
  obtain ⟨b, rfl, rfl, rfl, wb⟩ := open_int Try.underlying22 (hval 1 22 v1 rfl rfl) h1
  obtain ⟨c, rfl, rfl, rfl, wc⟩ := open_int Try.underlying5 (hval 2 5 v2 rfl rfl) h2
  have ba := bounds_u32 wa
  have bb := bounds_u32 wb
  have bc := bounds_u8 wc
  have ea : a = (a.toNat : Int) := (Int.toNat_of_nonneg ba.1).symm
  have eb : b = (b.toNat : Int) := (Int.toNat_of_nonneg bb.1).symm
  have ec : c = (c.toNat : Int) := (Int.toNat_of_nonneg bc.1).symm
  refine Calls.mono (calls_of (Q := fun v W' => v = .bool true ∧ Ext [] W W') Try.func5 (by kernel_rfl) (by kernel_rfl) ?_) fun e W' ⟨v, he, hv, hE⟩ => ?_
  · rw [ea, eb, ec]
    exact SessionAway_spec (by omega) (by omega) (by omega) fun W' hE => ⟨rfl, hE⟩
  · subst hv
    have hbelow := below_of hE
    refine ⟨_, he, _, _, _, [], [] ++ [] ++ [], [], hW', trodAll_mk1 (shut_bool Try.underlying4 true), ?_, rfl, hbelow.frame _, fun h => by cases h⟩
    exact trodAll_mk3 (shut_int Try.underlying22 wa) (shut_int Try.underlying22 wb) (shut_int Try.underlying5 wc)

theorem sessionAway_holds : Rows.SessionAwaySaid :=
  OpenClaim.holds_of_wide 5 Try.f5 rfl rfl rfl rfl rfl rfl rfl ⟨rfl, rfl, rfl, rfl, rfl⟩ rfl rfl rfl rfl rfl (by kernel_rfl) Try.func5 (by kernel_rfl)
    (of_decide_eq_true (by kernel_rfl)) (by unfold Func.isWrapper; rw [if_neg (of_decide_eq_false (by kernel_rfl))]; exact ⟨rfl, rfl⟩)
    (fun os started H enc _ => sessionAway_lifted os started H enc)

#print axioms sessionAway_holds
end Go.Proofs.Ytpdcllhmbjnooaa
