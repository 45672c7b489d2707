/- More words: division. -/
import Derived.Test.YtpdcllhmbjnooaaLj
namespace Go.Dc
variable {P : Program}
theorem run_intrem {t : TypeId} {kd : IntKind} {a b : Int} {w : World} (hb : b ≠ 0) : (binS .rem t (.int kd a) (.int kd b)).run P w = .ok (.int kd (a.tmod b)) w := by
  unfold binS
  show ((eqGuard _ t (.tmp 0) (.tmp 0) (.int kd a) (.int kd b)).bind _).run P w = _
  rw [run_bind]
  show (Go.binOp _ t (.int kd a) (.int kd b)).run P w = _
  simp only [Go.binOp, ne_eq, not_true_eq_false, if_false, Op.intDiv, if_neg hb]
  rfl
theorem run_intquo {t : TypeId} {kd : IntKind} {a b : Int} {w : World} (hb : b ≠ 0) : (binS .quo t (.int kd a) (.int kd b)).run P w = .ok (.int kd (kd.wrap (a.tdiv b))) w := by
  unfold binS
  show ((eqGuard _ t (.tmp 0) (.tmp 0) (.int kd a) (.int kd b)).bind _).run P w = _
  rw [run_bind]
  show (Go.binOp _ t (.int kd a) (.int kd b)).run P w = _
  simp only [Go.binOp, ne_eq, not_true_eq_false, if_false, Op.intDiv, if_neg hb]
  rfl
theorem run_index_str {t : TypeId} (ht : P.underlying t = some .string) (s : ByteArray) (kd : IntKind) (i : Int) (h0 : 0 ≤ i) {b : UInt8} (hb : s[i.toNat]? = some b) (w : World) :
    (Instr.index t (.string s) (.int kd i)).run P w = .ok (.int .u8 b.toNat) w := by
  have h1 : (asIntOf (.int kd i)).run P w = .ok (kd, i) w := rfl
  unfold Instr.index
  simp only [bind_eq, run_bind, h1, run_under ht, if_pos h0, hb]
  rfl
end Go.Dc
namespace Go.Proofs.Ytpdcllhmbjnooaa
open Go.Dc
def farDiv (o : BinOp) (t : TypeId) (kd : IntKind) (a b : Int) (k : Cont) (w : World) : Prop := bo o t (.int kd a) (.int kd b) k w
def farDivq (o : BinOp) (t : TypeId) (kd : IntKind) (a b : Int) (k : Value → Prop) (w : World) : Prop := boq o t (.int kd a) (.int kd b) k w
section
variable (t : TypeId) (kd : IntKind) (a b : Int) (k : Cont) (q : Value → Prop) (w : World)
@[simp] theorem bo_rem : bo .rem t (.int kd a) (.int kd b) k w = ifK (farDiv .rem t kd a b k w) (!decide (b = 0)) (k (.int kd (a.tmod b)) w) := by
  by_cases h : b = 0
  · rw [show (!decide (b = 0)) = false from by simp [h]]; unfold ifK farDiv; rfl
  · rw [ifK_pos (by simp [h])]; exact Run_ok (run_intrem h)
@[simp] theorem boq_rem : boq .rem t (.int kd a) (.int kd b) q w = ifK (farDivq .rem t kd a b q w) (!decide (b = 0)) (q (.int kd (a.tmod b))) := by
  by_cases h : b = 0
  · rw [show (!decide (b = 0)) = false from by simp [h]]; unfold ifK farDivq; rfl
  · rw [ifK_pos (by simp [h])]; exact RunQ_ok (run_intrem h)
@[simp] theorem bo_quo : bo .quo t (.int kd a) (.int kd b) k w = ifK (farDiv .quo t kd a b k w) (!decide (b = 0)) (k (.int kd (kd.wrap (a.tdiv b))) w) := by
  by_cases h : b = 0
  · rw [show (!decide (b = 0)) = false from by simp [h]]; unfold ifK farDiv; rfl
  · rw [ifK_pos (by simp [h])]; exact Run_ok (run_intquo h)
@[simp] theorem boq_quo : boq .quo t (.int kd a) (.int kd b) q w = ifK (farDivq .quo t kd a b q w) (!decide (b = 0)) (q (.int kd (kd.wrap (a.tdiv b)))) := by
  by_cases h : b = 0
  · rw [show (!decide (b = 0)) = false from by simp [h]]; unfold ifK farDivq; rfl
  · rw [ifK_pos (by simp [h])]; exact RunQ_ok (run_intquo h)
@[simp] theorem mf_eq (f : Fn) (xs ys : Array Value) : mf f xs ys k w = k (.func f xs ys) w := byEq rfl
@[simp] theorem mfq_eq (f : Fn) (xs ys : Array Value) : mfq f xs ys q w = q (.func f xs ys) := RunQ_ok rfl
end
end Go.Proofs.Ytpdcllhmbjnooaa
