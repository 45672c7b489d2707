/- Whatever the connection's number, the message and the tick, SessionAlone returns true, and its arguments read as they did; without a condition. -/
import Derived.Test.YtpdcllhmbjnooaaRows
import Derived.Test.YtpdcllhmbjnooaaSaA
import Derived.Test.YtpdcllhmbjnooaaSaB
import Derived.ProofKit
import Derived.OpenShut
namespace Go.Proofs.Ytpdcllhmbjnooaa
open Go.ChangeShapes Go.WideShapes Go.ChangeAt Go.RowKit
open Go.Dc (Ext hp Ret)

set_option maxRecDepth 10000

theorem own_Ytpdcllhmbjnooaa : ownKnob Try.prog.godebug = none := by kernel_rfl
theorem laid_Ytpdcllhmbjnooaa : laidOutB Try.prog = true := by kernel_rfl

/-- A call whose result is known, as the frame of a claim wants it. -/
theorem calls_of {P : Program} {f : FuncId} {fn : Func} {args : Array Value} {Q : Value → World → Prop} {w : World} (hf : P.funcs[f]? = some fn) (h1 : (fn.name == "runtime.NumGoroutine") = false) (h2 : fn.body.isNone = false)
    (h : Ret P f args Q w) : Calls P f args w fun e w' => ∃ v, e = .returned v ∧ Q v w' := by
  have hr : (callFunc f args).run P w = .ok (.enter f args) w := by
    show (Sem.bind (.program .pure) _).run P w = _
    simp only [Sem.bind, Sem.run, hf]
    rw [if_neg (by simp [h1]), if_neg (by simp [h2])]
    rfl
  unfold Ret at h
  rw [hr] at h
  refine Calls.mono h fun e w' he => ?_
  cases e with
  | returned v => exact ⟨v, rfl, he⟩
  | _ => exact False.elim he

theorem below_of {w w' : World} (h : Ext [] w w') : Below w.heap.size w w' := ⟨h.os, h.tape, h.output, h.size, fun k hk => h.same k hk (by simp)⟩

theorem cell_one {P : Program} {w : World} {r : Reach} {base : Nat} {t : TypeId} {v : Value} (h : Cell.okWide P w r base t v) : v.oneCell' = true := by
  unfold Cell.okWide Cell.ok at h
  cases v with
  | agg cs => exfalso; cases hu : P.underlying t with
    | none => simp [hu] at h
    | some d => cases d <;> simp [hu] at h
  | tuple cs => exfalso; cases hu : P.underlying t with
    | none => simp [hu] at h
    | some d => cases d <;> simp [hu] at h
  | _ => rfl

/-- What a message of an argument is. -/
theorem msg_of {H : Type} {enc : TypeId × Value → H} {W : World} {base : Nat} {v : Value} {d : DataW H} {ps : List MemPlace} (hok : Value.okWide pg W .any base 37 v) (h : DataW.Trod enc pg W 0 (fun _ => true) true 37 v d ps) :
    ∃ m f, v = .agg m ∧ MsgF m f := by
  unfold Value.okWide at hok
  rw [Try.underlying37] at hok
  obtain ⟨m, rfl, hsz, ts, _, _, hcell⟩ := hok
  obtain ⟨fuel, hf⟩ := h
  have hr : Rd W 37 m.toList := ⟨H, enc, _, fuel, d, ps, hf⟩
  have h28 : m.size = 28 := hsz.trans (by kernel_rfl)
  have one : ∀ v ∈ m, v.oneCell' = true := by
    intro v hv
    obtain ⟨i, hi, rfl⟩ := Array.mem_iff_getElem.1 hv
    obtain ⟨u, _, hu⟩ := hcell i _ (by rw [Array.getElem?_eq_getElem hi])
    exact cell_one hu
  obtain ⟨v0, g0, l0⟩ := at_of h28 0 (by decide)
  obtain ⟨v1, g1, l1⟩ := at_of h28 1 (by decide)
  obtain ⟨v2, g2, l2⟩ := at_of h28 2 (by decide)
  obtain ⟨v3, g3, l3⟩ := at_of h28 3 (by decide)
  obtain ⟨v5, g5, l5⟩ := at_of h28 5 (by decide)
  obtain ⟨n0, e0, w0⟩ := (hr.field1 (i := 0) (off := 0) (ft := 5) (by kernel_rfl) l0).int (k := .u8) (by kernel_rfl)
  obtain ⟨n1, e1, w1⟩ := (hr.field1 (i := 1) (off := 1) (ft := 22) (by kernel_rfl) l1).int (k := .u32) (by kernel_rfl)
  obtain ⟨n2, e2, w2⟩ := (hr.field1 (i := 2) (off := 2) (ft := 22) (by kernel_rfl) l2).int (k := .u32) (by kernel_rfl)
  obtain ⟨n3, e3, w3⟩ := (hr.field1 (i := 3) (off := 3) (ft := 23) (by kernel_rfl) l3).int (k := .u64) (by kernel_rfl)
  obtain ⟨n5, e5, w5⟩ := (hr.field1 (i := 5) (off := 5) (ft := 22) (by kernel_rfl) l5).int (k := .u32) (by kernel_rfl)
  simp at e0 e1 e2 e3 e5
  subst e0 e1 e2 e3 e5
  have b0 : 0 ≤ n0 ∧ n0 ≤ 255 := bounds_u8 w0
  have b1 : 0 ≤ n1 ∧ n1 ≤ 4294967295 := bounds_u32 w1
  have b2 : 0 ≤ n2 ∧ n2 ≤ 4294967295 := bounds_u32 w2
  have b3 : 0 ≤ n3 ∧ n3 ≤ 18446744073709551615 := bounds_u64 w3
  have b5 : 0 ≤ n5 ∧ n5 ≤ 4294967295 := bounds_u32 w5
  have c : ∀ {n : Int}, 0 ≤ n → n = (n.toNat : Int) := fun h => (Int.toNat_of_nonneg h).symm
  refine ⟨m, ⟨n0.toNat, n1.toNat, n2.toNat, n3.toNat, n5.toNat⟩, rfl, ⟨h28, one⟩, ?_, ?_, ?_, ?_, ?_, ?_, ?_, ?_, ?_, ?_⟩
  · rw [g0, c b0.1]; rfl
  · rw [g1, c b1.1]; rfl
  · rw [g2, c b2.1]; rfl
  · rw [g3, c b3.1]; rfl
  · rw [g5, c b5.1]; rfl
  all_goals (simp only; omega)

set_option maxRecDepth 100000 in
theorem sessionAlone_lifted (os : Os) (started : os.Started) (H : Type) (enc : TypeId × Value → H) :
    ReturnsInHanded {} Try.checked os 3 .any (Rows.sessionAloneSpec.pre6 enc Try.prog Try.f3 Rows.sessionAloneRow.domain false) (Rows.sessionAloneSpec.post enc Try.prog Try.f3 false true false false) := by
  refine returnsInHanded_of_change (C := Try.checked) own_Ytpdcllhmbjnooaa started (by kernel_rfl) Try.func3
    (ChangeSpec.witness6 (enc := enc) (C := Try.checked) false ⟨#[], #[.int .i64 0, .agg zMsg, .int .u32 0], []⟩ 8 (by kernel_rfl) (by kernel_rfl) (by kernel_rfl) (by kernel_rfl)) ?_
  intro W base args ds gs before hval0 hW hcnd _
  have hval : ∀ (j : Nat) t v, Try.f3.params[j]? = some t → args[j]? = some v → Value.okWide Try.prog W .any base t v := hval0
  have hW' := hW
  obtain ⟨p, q, hA0, hV, rfl, hfz, hnd⟩ := hW
  have hA : DataW.TrodAll enc Try.prog W 0 (fun _ => true) true Try.f3.params.toList args.toList ds p := hA0
  rw [Try.params3] at hA hval
  obtain ⟨v0, v1, v2, d0, d1, d2, p0, p1, p2, hargs, rfl, rfl, h0, h1, h2⟩ := trodAll_three hA
  subst hargs
  obtain ⟨rfl, rfl⟩ := trodVars_none hV
  obtain ⟨n, rfl, rfl, rfl, wn⟩ := open_int Try.underlying3 (hval 0 3 v0 rfl rfl) h0
  obtain ⟨t, rfl, rfl, rfl, wt⟩ := open_int Try.underlying22 (hval 2 22 v2 rfl rfl) h2
  obtain ⟨m, f, rfl, hm⟩ := msg_of (hval 1 37 v1 rfl rfl) h1
  have hlt : ∀ x ∈ p1, x.block < W.heap.size := fun x hx => hW'.lt x (by simp [hx])
  have again : ∀ W', Ext [] W W' → DataW.Trod enc Try.prog W' 0 (fun b => decide (b < W.heap.size)) true 37 (.agg m) d1 p1 := fun W' hE =>
    Below.trod laid_Ytpdcllhmbjnooaa (by kernel_rfl) (of_decide_eq_true (by kernel_rfl)) h1 (below_of hE) hlt
  have bt := bounds_u32 wt
  have et : t = (t.toNat : Int) := (Int.toNat_of_nonneg bt.1).symm
  refine Calls.mono (calls_of (Q := fun v W' => v = .bool true ∧ Ext [] W W') Try.func3 (by kernel_rfl) (by kernel_rfl) ?_) fun e W' ⟨v, he, hv, hE⟩ => ?_
  · rw [et]
    refine SessionAlone_spec hm (by omega) (fun w1 x1 K hK => Great_spec hm.ok.size (fun w' x' => ?_) hK) fun W' hE => ⟨rfl, hE⟩
    obtain ⟨fuel, hf⟩ := again w' (x1.trans x' (by simp))
    exact ⟨H, enc, _, fuel, d1, p1, hf⟩
  · subst hv
    have hbelow := below_of hE
    refine ⟨_, he, _, _, _, [], [] ++ p1 ++ [], [], hW', trodAll_mk1 (shut_bool Try.underlying4 true), ?_, rfl, hbelow.frame _, fun h => by cases h⟩
    exact trodAll_mk3 (shut_int Try.underlying3 wn) (again W' hE) (shut_int Try.underlying22 wt)

theorem sessionAlone_holds : Rows.SessionAloneSaid :=
  OpenClaim.holds_of_wide 3 Try.f3 rfl rfl rfl rfl rfl rfl rfl ⟨rfl, rfl, rfl, rfl, rfl⟩ rfl rfl rfl rfl rfl (by kernel_rfl) Try.func3 (by kernel_rfl)
    (of_decide_eq_true (by kernel_rfl)) (by unfold Func.isWrapper; rw [if_neg (of_decide_eq_false (by kernel_rfl))]; exact ⟨rfl, rfl⟩)
    (fun os started H enc _ => sessionAlone_lifted os started H enc)

#print axioms sessionAlone_holds
end Go.Proofs.Ytpdcllhmbjnooaa
