/- Sessions: the tables of answers and the windows, as the program keeps them. -/
import Derived.Test.YtpdcllhmbjnooaaS2
import Derived.Test.YtpdcllhmbjnooaaFa
namespace Go.Proofs.Ytpdcllhmbjnooaa
open Go.Dc
set_option maxRecDepth 10000

theorem ret_LoadUint32 (args : Array Value) (k : Cont) (w : World) : Ret pg n_sync_atomic_LoadUint32 args k w = Run pg (Extern.Atomic.loadT (.int .u32) args) k w := ret_extern (by kernel_rfl)
theorem ret_StoreUint32 (args : Array Value) (k : Cont) (w : World) : Ret pg n_sync_atomic_StoreUint32 args k w = Run pg (Extern.Atomic.storeT args) k w := ret_extern (by kernel_rfl)
theorem ret_CasUint32 (args : Array Value) (k : Cont) (w : World) : Ret pg n_sync_atomic_CompareAndSwapUint32 args k w = Run pg (Extern.Atomic.casT (.int .u32) args) k w := ret_extern (by kernel_rfl)

theorem atomic_Load_spec {b i : Nat} {n : Int} {Q : Cont} {w : World} (h : cellOf (hp w b) i = some (.int .u32 n)) (hq : Q (.int .u32 n) w) : Ret pg n_sync_atomic_Uint32_Load #[pt b i] Q w := by
  apply sync_atomic_Uint32_Load_ok
  unfold sync_atomic_Uint32_Load
  simp
  rw [ret_LoadUint32, Run_ok (run_atomicLoad h)]
  exact hq
theorem atomic_Store_spec {b i : Nat} {n : Int} {c : Array Value} {T : TypeId} {Q : Cont} {w : World} (h : hp w b = some (.cells c T (0, 0))) (hi : i < c.size) (hq : Q (.tuple #[]) (put w b (.cells (c.setIfInBounds i (.int .u32 n)) T (0, 0)))) : Ret pg n_sync_atomic_Uint32_Store #[pt b i, .int .u32 n] Q w := by
  apply sync_atomic_Uint32_Store_ok
  unfold sync_atomic_Uint32_Store
  simp
  rw [ret_StoreUint32, Run_ok (run_atomicStore h hi)]
  exact hq
theorem atomic_Cas_spec {b i : Nat} {n m : Int} {c : Array Value} {T : TypeId} {Q : Cont} {w : World} (h : hp w b = some (.cells c T (0, 0))) (hi : c[i]? = some (.int .u32 n)) (hq : Q (.bool true) (put w b (.cells (c.setIfInBounds i (.int .u32 m)) T (0, 0)))) : Ret pg n_sync_atomic_Uint32_CompareAndSwap #[pt b i, .int .u32 n, .int .u32 m] Q w := by
  apply sync_atomic_Uint32_CompareAndSwap_ok
  unfold sync_atomic_Uint32_CompareAndSwap
  simp
  rw [ret_CasUint32, Run_ok (run_atomicCas h hi)]
  simpa using hq

/-! ### The window -/

structure Wn where
  blk : Nat
  size : Nat
  limit : Nat

structure WnRep (w : World) (c : Wn) : Prop where
  at_ : hp w c.blk = some (.cells #[.int .u32 c.size, .int .u32 c.limit] T_credit_Window (0, 0))
  s1 : 1 ≤ c.size
  s8 : c.size ≤ 8
  le : c.limit ≤ 1073741824

theorem WnRep.ext {w w' : World} {c : Wn} {S : List Nat} (h : WnRep w c) (e : Ext S w w') (hs : c.blk ∉ S) : WnRep w' c := ⟨e.at h.at_ hs, h.s1, h.s8, h.le⟩

def sizeOfWin (n : Int) : Nat := (max 1 (min n 8)).toNat

theorem WnRep.lt {w : World} {c : Wn} (h : WnRep w c) : c.blk < w.heap.size := lt_of_hp h.at_

theorem wrap_u32 (n : Int) (h0 : 0 ≤ n) (h : n < 4294967296) : IntKind.wrap .u32 n = n := by
  unfold IntKind.wrap
  simp [IntKind.bits, IntKind.signed]
  omega
theorem wrap_i64 (n : Int) (h0 : -9223372036854775808 ≤ n) (h : n < 9223372036854775808) : IntKind.wrap .i64 n = n := by
  unfold IntKind.wrap
  simp [IntKind.bits, IntKind.signed]
  omega
theorem wrap_u64 (n : Int) (h0 : 0 ≤ n) (h : n < 18446744073709551616) : IntKind.wrap .u64 n = n := by
  unfold IntKind.wrap
  simp [IntKind.bits, IntKind.signed]
  omega
theorem wrap_u8 (n : Int) (h0 : 0 ≤ n) (h : n < 256) : IntKind.wrap .u8 n = n := by
  unfold IntKind.wrap
  simp [IntKind.bits, IntKind.signed]
  omega

theorem credit_New_spec (n : Int) (Q : Cont) (w : World) (h : ∀ w', Ext [] w w' → w'.heap.size = w.heap.size + 1 → WnRep w' ⟨w.heap.size, sizeOfWin n, sizeOfWin n⟩ → Q (pt w.heap.size 0) w') : Ret pg n_credit_New #[I n] Q w := by
  apply credit_New_ok
  unfold credit_New
  have e : (if (1 : Int) < (if (8 : Int) < n then 8 else n) then (if (8 : Int) < n then 8 else n) else 1) = (sizeOfWin n : Int) := by
    unfold sizeOfWin; omega
  have e2 : 1 ≤ sizeOfWin n ∧ sizeOfWin n ≤ 8 := by unfold sizeOfWin; omega
  simp only [b_min2, b_max2, e]
  rw [cv_int_uint32, wrap_u32 _ (by omega) (by omega)]
  simp
  refine atomic_Store_spec (c := #[.int .u32 (sizeOfWin n), .int .u32 0]) (T := 134) (by simp) (by simp) ?_
  refine h _ (Ext.put (Ext.drw (Ext.alloc (Ext.refl _ _))) (.inr (Nat.le_refl _))) (by simp) ⟨by simp, e2.1, e2.2, by show sizeOfWin n ≤ _; omega⟩

theorem credit_Limit_spec {c : Wn} {Q : Cont} {w : World} (hc : WnRep w c) (h : Q (.int .u32 c.limit) w) : Ret pg n_credit_Window_Limit #[pt c.blk 0] Q w := by
  apply credit_Window_Limit_ok
  unfold credit_Window_Limit
  simp
  exact atomic_Load_spec (by rw [hc.at_]; rfl) h

theorem credit_May_spec {c : Wn} {r : Nat} {Q : Cont} {w : World} (hc : WnRep w c) (h : Q (.bool (decide (0 < r ∧ r ≤ c.limit))) w) : Ret pg n_credit_Window_May #[pt c.blk 0, .int .u32 r] Q w := by
  apply credit_Window_May_ok
  unfold credit_Window_May
  simp
  by_cases h0 : 0 < r
  · rw [ifB_pos (by simpa using h0)]
    refine atomic_Load_spec (n := c.limit) (by rw [hc.at_]; rfl) ?_
    simp
    simpa [h0] using h
  · rw [ifB_neg (by simpa using h0)]
    simpa [h0] using h

def Wn.raise (c : Wn) (l : Nat) : Wn := { c with limit := max c.limit (min l 1073741824) }

theorem credit_Raise_spec {c : Wn} {l : Nat} {Q : Cont} {w : World} (hc : WnRep w c)
    (h : ∀ w', Ext [c.blk] w w' → w'.heap.size = w.heap.size → WnRep w' (c.raise l) → Q (.bool (decide (c.limit < (c.raise l).limit))) w') : Ret pg n_credit_Window_Raise #[pt c.blk 0, .int .u32 l] Q w := by
  apply credit_Window_Raise_ok
  unfold credit_Window_Raise
  have e : (if (1073741824 : Int) < (l : Int) then 1073741824 else (l : Int)) = ((min l 1073741824 : Nat) : Int) := by
    by_cases h : l ≤ 1073741824 <;> omega
  simp only [b_min2, e]
  simp
  refine atomic_Load_spec (n := c.limit) (by rw [hc.at_]; rfl) ?_
  simp only [bo_leq, iteW_bool]
  by_cases hl : min l 1073741824 ≤ c.limit
  · rw [ifB_pos (by simp; omega)]
    have e1 : c.raise l = c := by unfold Wn.raise; rw [Nat.max_eq_left hl]
    have := h w (Ext.refl _ _) rfl (by rw [e1]; exact hc)
    rw [e1] at this
    simpa using this
  · rw [ifB_neg (by simp; omega)]
    simp
    refine atomic_Cas_spec hc.at_ rfl ?_
    have e1 : (c.raise l).limit = min l 1073741824 := by unfold Wn.raise; show max _ _ = _; omega
    have := h (put w c.blk (.cells (#[.int .u32 c.size, .int .u32 c.limit].setIfInBounds 1 (.int .u32 ((min l 1073741824 : Nat) : Int))) T_credit_Window (0, 0))) (Ext.put (Ext.refl _ _) (.inl (by simp))) (by simp)
      ⟨by rw [e1]; simp [hc.lt, Wn.raise], hc.s1, hc.s8, by rw [e1]; omega⟩
    rw [e1] at this
    rw [show decide (c.limit < min l 1073741824) = true from by simp; omega] at this
    exact this

/-- Answers up to n were had. -/
def Wn.had (c : Wn) (n : Nat) : Wn := c.raise (min n (1073741824 - c.size) + c.size)

theorem credit_Had_spec {c : Wn} {n : Nat} {Q : Cont} {w : World} (hc : WnRep w c) (hn : n < 4294967296)
    (h : ∀ w', Ext [c.blk] w w' → w'.heap.size = w.heap.size → WnRep w' (c.had n) → Q (.bool (decide (c.limit < (c.had n).limit))) w') : Ret pg n_credit_Window_Had #[pt c.blk 0, .int .u32 n] Q w := by
  apply credit_Window_Had_ok
  unfold credit_Window_Had
  have h1 := hc.s1
  have h8 := hc.s8
  have e0 : IntKind.wrap .u32 (1073741824 - (c.size : Int)) = ((1073741824 - c.size : Nat) : Int) := by
    rw [wrap_u32 _ (by omega) (by omega)]; omega
  have e1 : (if ((1073741824 - c.size : Nat) : Int) < (n : Int) then ((1073741824 - c.size : Nat) : Int) else (n : Int)) = ((min n (1073741824 - c.size) : Nat) : Int) := by
    by_cases hh : n ≤ 1073741824 - c.size <;> omega
  have e2 : IntKind.wrap .u32 (((min n (1073741824 - c.size) : Nat) : Int) + (c.size : Int)) = ((min n (1073741824 - c.size) + c.size : Nat) : Int) := by
    rw [wrap_u32 _ (by omega) (by omega)]; omega
  simp [hc.at_]
  simp only [e0, e1, e2]
  have hc' : WnRep (drw w) c := hc.ext (Ext.drw (Ext.refl [] _)) (by simp)
  exact credit_Raise_spec hc' fun w' h1 h2 h3 => h w' (Ext.trans (Ext.drw (Ext.refl [c.blk] _)) h1 (fun x hx => .inl hx)) h2 h3
end Go.Proofs.Ytpdcllhmbjnooaa
