/- The frame of a claim: what all of them need. -/
import Derived.Test.YtpdcllhmbjnooaaRows
import Derived.Test.YtpdcllhmbjnooaaSeL
import Derived.Test.YtpdcllhmbjnooaaRd
import Derived.ProofKit
import Derived.OpenShut
namespace Go.Proofs.Ytpdcllhmbjnooaa
open Go.ChangeShapes Go.WideShapes Go.ChangeAt Go.RowKit
open Go.Dc (Ext hp Ret)

set_option maxRecDepth 10000

theorem own_Ytpdcllhmbjnooaa : ownKnob Try.prog.godebug = none := by kernel_rfl
theorem laid_Ytpdcllhmbjnooaa : laidOutB Try.prog = true := by kernel_rfl

/-- A call whose result is known, as the frame of a claim wants it. -/
theorem calls_of {P : Program} {f : FuncId} {fn : Func} {args : Array Value} {Q : Value → World → Prop} {w : World} (hf : P.funcs[f]? = some fn) (h1 : (fn.name == "runtime.NumGoroutine") = false) (h2 : fn.body.isNone = false)
    (h : Ret P f args Q w) : Calls P f args w fun e w' => ∃ v, e = .returned v ∧ Q v w' := by
  have hr : (callFunc f args).run P w = .ok (.enter f args) w := by
    show (Sem.bind (.program .pure) _).run P w = _
    simp only [Sem.bind, Sem.run, hf]
    rw [if_neg (by simp [h1]), if_neg (by simp [h2])]
    rfl
  unfold Ret at h
  rw [hr] at h
  refine Calls.mono h fun e w' he => ?_
  cases e with
  | returned v => exact ⟨v, rfl, he⟩
  | _ => exact False.elim he

theorem below_of {w w' : World} (h : Ext [] w w') : Below w.heap.size w w' := ⟨h.os, h.tape, h.output, h.size, fun k hk => h.same k hk (by simp)⟩

theorem cell_one {P : Program} {w : World} {r : Reach} {base : Nat} {t : TypeId} {v : Value} (h : Cell.okWide P w r base t v) : v.oneCell' = true := by
  unfold Cell.okWide Cell.ok at h
  cases v with
  | agg cs => exfalso; cases hu : P.underlying t with
    | none => simp [hu] at h
    | some d => cases d <;> simp [hu] at h
  | tuple cs => exfalso; cases hu : P.underlying t with
    | none => simp [hu] at h
    | some d => cases d <;> simp [hu] at h
  | _ => rfl

/-- What a message of an argument is. -/
theorem msg_of {H : Type} {enc : TypeId × Value → H} {W : World} {base : Nat} {v : Value} {d : DataW H} {ps : List MemPlace} (hok : Value.okWide pg W .any base 37 v) (h : DataW.Trod enc pg W 0 (fun _ => true) true 37 v d ps) :
    ∃ m f, v = .agg m ∧ MsgF m f := by
  unfold Value.okWide at hok
  rw [Try.underlying37] at hok
  obtain ⟨m, rfl, hsz, ts, _, _, hcell⟩ := hok
  obtain ⟨fuel, hf⟩ := h
  have hr : Rd W 37 m.toList := ⟨H, enc, _, fuel, d, ps, hf⟩
  have h28 : m.size = 28 := hsz.trans (by kernel_rfl)
  have one : ∀ v ∈ m, v.oneCell' = true := by
    intro v hv
    obtain ⟨i, hi, rfl⟩ := Array.mem_iff_getElem.1 hv
    obtain ⟨u, _, hu⟩ := hcell i _ (by rw [Array.getElem?_eq_getElem hi])
    exact cell_one hu
  obtain ⟨v0, g0, l0⟩ := at_of h28 0 (by decide)
  obtain ⟨v1, g1, l1⟩ := at_of h28 1 (by decide)
  obtain ⟨v2, g2, l2⟩ := at_of h28 2 (by decide)
  obtain ⟨v3, g3, l3⟩ := at_of h28 3 (by decide)
  obtain ⟨v5, g5, l5⟩ := at_of h28 5 (by decide)
  obtain ⟨n0, e0, w0⟩ := (hr.field1 (i := 0) (off := 0) (ft := 5) (by kernel_rfl) l0).int (k := .u8) (by kernel_rfl)
  obtain ⟨n1, e1, w1⟩ := (hr.field1 (i := 1) (off := 1) (ft := 22) (by kernel_rfl) l1).int (k := .u32) (by kernel_rfl)
  obtain ⟨n2, e2, w2⟩ := (hr.field1 (i := 2) (off := 2) (ft := 22) (by kernel_rfl) l2).int (k := .u32) (by kernel_rfl)
  obtain ⟨n3, e3, w3⟩ := (hr.field1 (i := 3) (off := 3) (ft := 23) (by kernel_rfl) l3).int (k := .u64) (by kernel_rfl)
  obtain ⟨n5, e5, w5⟩ := (hr.field1 (i := 5) (off := 5) (ft := 22) (by kernel_rfl) l5).int (k := .u32) (by kernel_rfl)
  simp at e0 e1 e2 e3 e5
  subst e0 e1 e2 e3 e5
  have b0 : 0 ≤ n0 ∧ n0 ≤ 255 := bounds_u8 w0
  have b1 : 0 ≤ n1 ∧ n1 ≤ 4294967295 := bounds_u32 w1
  have b2 : 0 ≤ n2 ∧ n2 ≤ 4294967295 := bounds_u32 w2
  have b3 : 0 ≤ n3 ∧ n3 ≤ 18446744073709551615 := bounds_u64 w3
  have b5 : 0 ≤ n5 ∧ n5 ≤ 4294967295 := bounds_u32 w5
  have c : ∀ {n : Int}, 0 ≤ n → n = (n.toNat : Int) := fun h => (Int.toNat_of_nonneg h).symm
  refine ⟨m, ⟨n0.toNat, n1.toNat, n2.toNat, n3.toNat, n5.toNat⟩, rfl, ⟨h28, one⟩, ?_, ?_, ?_, ?_, ?_, ?_, ?_, ?_, ?_, ?_⟩
  · rw [g0, c b0.1]; rfl
  · rw [g1, c b1.1]; rfl
  · rw [g2, c b2.1]; rfl
  · rw [g3, c b3.1]; rfl
  · rw [g5, c b5.1]; rfl
  all_goals (simp only; omega)

end Go.Proofs.Ytpdcllhmbjnooaa
