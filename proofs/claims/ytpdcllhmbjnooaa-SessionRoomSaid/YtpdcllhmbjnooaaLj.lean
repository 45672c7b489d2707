/- What each printed operation does to a world whose blocks are known. -/
import Derived.Test.YtpdcllhmbjnooaaNm
namespace Go.Proofs.Ytpdcllhmbjnooaa
open Go.Dc
attribute [simp] objK_some splice_whole rowOf_whole

def ifK (far : Prop) (c : Bool) (k : Prop) : Prop :=
  match c with
  | true => k
  | false => far
theorem ifK_pos {far k : Prop} {c : Bool} (h : c = true) : ifK far c k = k := by rw [h]; rfl
@[simp] theorem ifK_true {far k : Prop} : ifK far true k = k := byEq rfl
@[congr] theorem ifK_congr {far k : Prop} {c c' : Bool} (h : c = c') {c0 : Nat} (_ : tick = c0) : ifK far c k = ifK far c' k := by rw [h]

/-- What is made of a number, or a row, once it is written in its plain form. -/
def natK (k : Nat → Prop) (n : Nat) : Prop := k n
def arrK (k : Array Value → Prop) (a : Array Value) : Prop := k a
@[simp] theorem natK_eq (k : Nat → Prop) (n : Nat) : natK k n = k n := Classical.byContradiction fun h => h rfl
@[simp] theorem arrK_eq (k : Array Value → Prop) (a : Array Value) : arrK k a = k a := Classical.byContradiction fun h => h rfl
@[congr] theorem natK_congr {k : Nat → Prop} {n n' : Nat} (h : n = n') {c0 : Nat} (_ : tick = c0) : natK k n = natK k n' := by rw [h]
@[congr] theorem arrK_congr {k : Array Value → Prop} {n n' : Array Value} (h : n = n') {c0 : Nat} (_ : tick = c0) : arrK k n = arrK k n' := by rw [h]

def farLd (t : TypeId) (b i : Nat) (k : Cont) (w : World) : Prop := ld t (pt b i) k w
def farLdq (t : TypeId) (b i : Nat) (k : Value → Prop) (w : World) : Prop := ldq t (pt b i) k w

theorem ld_scalar {t : TypeId} (ha : aggB pg t = false) (hk : knownB pg t = true) (b i : Nat) (k : Cont) (w : World) : ld t (pt b i) k w = optK (farLd t b i k w) (cellOf (hp w b) i) (fun v => k v w) := by
  cases h : cellOf (hp w b) i with
  | none => unfold optK; first | (unfold farLd; rfl) | (unfold farLdq; rfl)
  | some v => exact Run_ok (run_load_scalar (P := pg) ha hk (by rw [cell_heap, h]))
theorem ldq_scalar {t : TypeId} (ha : aggB pg t = false) (hk : knownB pg t = true) (b i : Nat) (k : Value → Prop) (w : World) : ldq t (pt b i) k w = optK (farLdq t b i k w) (cellOf (hp w b) i) k := by
  cases h : cellOf (hp w b) i with
  | none => unfold optK; first | (unfold farLd; rfl) | (unfold farLdq; rfl)
  | some v => exact RunQ_ok (run_load_scalar (P := pg) ha hk (by rw [cell_heap, h]))

theorem ld_agg {t : TypeId} {n : Nat} (ha : aggB pg t = true) (hs : (pg.info? t).map (·.size) = some n) (b i : Nat) (k : Cont) (w : World) : ld t (pt b i) k w = optK (farLd t b i k w) (rowOf (hp w b) i n) (fun v => k v w) := by
  cases h : rowOf (hp w b) i n with
  | none => unfold optK; first | (unfold farLd; rfl) | (unfold farLdq; rfl)
  | some v => exact Run_ok (run_load_agg (P := pg) ha hs h)
theorem ldq_agg {t : TypeId} {n : Nat} (ha : aggB pg t = true) (hs : (pg.info? t).map (·.size) = some n) (b i : Nat) (k : Value → Prop) (w : World) : ldq t (pt b i) k w = optK (farLdq t b i k w) (rowOf (hp w b) i n) k := by
  cases h : rowOf (hp w b) i n with
  | none => unfold optK; first | (unfold farLd; rfl) | (unfold farLdq; rfl)
  | some v => exact RunQ_ok (run_load_agg (P := pg) ha hs h)

def farSt (t : TypeId) (b i : Nat) (v : Value) (k : Cont) (w : World) : Prop := st t (pt b i) v k w

theorem st_scalar {t : TypeId} (hs : (pg.info? t).map (·.size) = some 1) (b i : Nat) (v : Value) (k : Cont) (w : World) :
    st t (pt b i) v k w = ifK (farSt t b i v k w) v.oneCell' (objK (farSt t b i v k w) (hp w b) i 1 (fun c T => arrK (fun a => k undef (put w b (.cells a T (0, 0)))) (c.setIfInBounds i v))) := by
  cases h1 : v.oneCell'
  · unfold ifK farSt; rfl
  rw [ifK_true]
  unfold objK
  split
  · rename_i c T h
    split
    · rename_i hi
      exact Run_ok (run_store_scalar (P := pg) hs h1 h (by omega))
    · unfold farSt; rfl
  · unfold farSt; rfl

def allOne (vs : Array Value) : Bool := vs.toList.all Value.oneCell'
theorem allOne_iff {vs : Array Value} : allOne vs = true ↔ ∀ v ∈ vs, v.oneCell' = true := by
  unfold allOne
  rw [List.all_eq_true]
  exact ⟨fun h v hv => h v (by simpa using hv), fun h v hv => h v (by simpa using hv)⟩
@[simp] theorem allOne_lit (l : List Value) : allOne l.toArray = l.all Value.oneCell' := by simp [allOne]
theorem st_agg {t : TypeId} {n : Nat} (hs : (pg.info? t).map (·.size) = some n) (b i : Nat) (vs : Array Value) (k : Cont) (w : World) :
    st t (pt b i) (.agg vs) k w = ifK (farSt t b i (.agg vs) k w) (decide (vs.size = n) && allOne vs) (objK (farSt t b i (.agg vs) k w) (hp w b) i n (fun c T => arrK (fun a => k undef (put w b (.cells a T (0, 0)))) (splice c i vs))) := by
  cases hc : (decide (vs.size = n) && allOne vs)
  · unfold ifK farSt; rfl
  simp only [Bool.and_eq_true, decide_eq_true_eq] at hc
  have h1 := allOne_iff.1 hc.2
  rw [ifK_true]
  unfold objK
  split
  · rename_i c T h
    split
    · rename_i hi
      exact Run_ok (run_store_agg (P := pg) hs hc.1 h1 h hi)
    · unfold farSt; rfl
  · unfold farSt; rfl

/-! ### Small operations -/

/-! ### The rewriting looks at what an operation is given, not at what comes behind it -/
@[congr] theorem bx_congr {t : TypeId} {x : Value} {x' : Value} {k : Cont} {w : World} (hx : x = x') {c0 : Nat} (_ : tick = c0) : bx t x k w = bx t x' k w := by rw [hx]
@[congr] theorem bs_congr {t : TypeId} {n : Nat} {ps : Array (Nat × Value)} {ps' : Array (Nat × Value)} {k : Cont} {w : World} (hps : ps = ps') {c0 : Nat} (_ : tick = c0) : bs t n ps k w = bs t n ps' k w := by rw [hps]
@[congr] theorem ld_congr {t : TypeId} {a : Value} {a' : Value} {k : Cont} {w : World} (ha : a = a') {c0 : Nat} (_ : tick = c0) : ld t a k w = ld t a' k w := by rw [ha]
@[congr] theorem ldq_congr {t : TypeId} {a : Value} {a' : Value} {k : Value → Prop} {w : World} (ha : a = a') {c0 : Nat} (_ : tick = c0) : ldq t a k w = ldq t a' k w := by rw [ha]
@[congr] theorem st_congr {t : TypeId} {a x : Value} {a' : Value} {x' : Value} {k : Cont} {w : World} (ha : a = a') (hx : x = x') {c0 : Nat} (_ : tick = c0) : st t a x k w = st t a' x' k w := by rw [ha, hx]
@[congr] theorem nc_congr {x : Value} {x' : Value} {k : Cont} {w : World} (hx : x = x') {c0 : Nat} (_ : tick = c0) : nc x k w = nc x' k w := by rw [hx]
@[congr] theorem ncq_congr {x : Value} {x' : Value} {k : Value → Prop} {w : World} (hx : x = x') {c0 : Nat} (_ : tick = c0) : ncq x k w = ncq x' k w := by rw [hx]
@[congr] theorem bo_congr {o : BinOp} {t : TypeId} {a b : Value} {a' : Value} {b' : Value} {k : Cont} {w : World} (ha : a = a') (hb : b = b') {c0 : Nat} (_ : tick = c0) : bo o t a b k w = bo o t a' b' k w := by rw [ha, hb]
@[congr] theorem boq_congr {o : BinOp} {t : TypeId} {a b : Value} {a' : Value} {b' : Value} {k : Value → Prop} {w : World} (ha : a = a') (hb : b = b') {c0 : Nat} (_ : tick = c0) : boq o t a b k w = boq o t a' b' k w := by rw [ha, hb]
@[congr] theorem uo_congr {o : UnOp} {x : Value} {x' : Value} {k : Cont} {w : World} (hx : x = x') {c0 : Nat} (_ : tick = c0) : uo o x k w = uo o x' k w := by rw [hx]
@[congr] theorem uoq_congr {o : UnOp} {x : Value} {x' : Value} {k : Value → Prop} {w : World} (hx : x = x') {c0 : Nat} (_ : tick = c0) : uoq o x k w = uoq o x' k w := by rw [hx]
@[congr] theorem cv_congr {s d : TypeId} {x : Value} {x' : Value} {k : Cont} {w : World} (hx : x = x') {c0 : Nat} (_ : tick = c0) : cv s d x k w = cv s d x' k w := by rw [hx]
@[congr] theorem cvq_congr {s d : TypeId} {x : Value} {x' : Value} {k : Value → Prop} {w : World} (hx : x = x') {c0 : Nat} (_ : tick = c0) : cvq s d x k w = cvq s d x' k w := by rw [hx]
@[congr] theorem mf_congr {f : Fn} {a b : Array Value} {a' : Array Value} {b' : Array Value} {k : Cont} {w : World} (ha : a = a') (hb : b = b') {c0 : Nat} (_ : tick = c0) : mf f a b k w = mf f a' b' k w := by rw [ha, hb]
@[congr] theorem mfq_congr {f : Fn} {a b : Array Value} {a' : Array Value} {b' : Array Value} {k : Value → Prop} {w : World} (ha : a = a') (hb : b = b') {c0 : Nat} (_ : tick = c0) : mfq f a b k w = mfq f a' b' k w := by rw [ha, hb]
@[congr] theorem ms_congr {t : TypeId} {a b : Value} {a' : Value} {b' : Value} {k : Cont} {w : World} (ha : a = a') (hb : b = b') {c0 : Nat} (_ : tick = c0) : ms t a b k w = ms t a' b' k w := by rw [ha, hb]
@[congr] theorem sl_congr {t : TypeId} {x : Value} {a b c : Option Value} {x' : Value} {a' : Option Value} {b' : Option Value} {c' : Option Value} {k : Cont} {w : World} (hx : x = x') (ha : a = a') (hb : b = b') (hc : c = c') {c0 : Nat} (_ : tick = c0) : sl t x a b c k w = sl t x' a' b' c' k w := by rw [hx, ha, hb, hc]
@[congr] theorem slq_congr {t : TypeId} {x : Value} {a b c : Option Value} {x' : Value} {a' : Option Value} {b' : Option Value} {c' : Option Value} {k : Value → Prop} {w : World} (hx : x = x') (ha : a = a') (hb : b = b') (hc : c = c') {c0 : Nat} (_ : tick = c0) : slq t x a b c k w = slq t x' a' b' c' k w := by rw [hx, ha, hb, hc]
@[congr] theorem fa_congr {t : TypeId} {x : Value} {f : Nat} {x' : Value} {k : Cont} {w : World} (hx : x = x') {c0 : Nat} (_ : tick = c0) : fa t x f k w = fa t x' f k w := by rw [hx]
@[congr] theorem faq_congr {t : TypeId} {x : Value} {f : Nat} {x' : Value} {k : Value → Prop} {w : World} (hx : x = x') {c0 : Nat} (_ : tick = c0) : faq t x f k w = faq t x' f k w := by rw [hx]
@[congr] theorem fd_congr {t : TypeId} {x : Value} {f : Nat} {x' : Value} {k : Cont} {w : World} (hx : x = x') {c0 : Nat} (_ : tick = c0) : fd t x f k w = fd t x' f k w := by rw [hx]
@[congr] theorem fdq_congr {t : TypeId} {x : Value} {f : Nat} {x' : Value} {k : Value → Prop} {w : World} (hx : x = x') {c0 : Nat} (_ : tick = c0) : fdq t x f k w = fdq t x' f k w := by rw [hx]
@[congr] theorem ia_congr {t : TypeId} {x i : Value} {x' : Value} {i' : Value} {k : Cont} {w : World} (hx : x = x') (hi : i = i') {c0 : Nat} (_ : tick = c0) : ia t x i k w = ia t x' i' k w := by rw [hx, hi]
@[congr] theorem iaq_congr {t : TypeId} {x i : Value} {x' : Value} {i' : Value} {k : Value → Prop} {w : World} (hx : x = x') (hi : i = i') {c0 : Nat} (_ : tick = c0) : iaq t x i k w = iaq t x' i' k w := by rw [hx, hi]
@[congr] theorem ix_congr {t : TypeId} {x i : Value} {x' : Value} {i' : Value} {k : Cont} {w : World} (hx : x = x') (hi : i = i') {c0 : Nat} (_ : tick = c0) : ix t x i k w = ix t x' i' k w := by rw [hx, hi]
@[congr] theorem ixq_congr {t : TypeId} {x i : Value} {x' : Value} {i' : Value} {k : Value → Prop} {w : World} (hx : x = x') (hi : i = i') {c0 : Nat} (_ : tick = c0) : ixq t x i k w = ixq t x' i' k w := by rw [hx, hi]
@[congr] theorem lk_congr {t : TypeId} {x i : Value} {ok : Bool} {x' : Value} {i' : Value} {k : Cont} {w : World} (hx : x = x') (hi : i = i') {c0 : Nat} (_ : tick = c0) : lk t x i ok k w = lk t x' i' ok k w := by rw [hx, hi]
@[congr] theorem lkq_congr {t : TypeId} {x i : Value} {ok : Bool} {x' : Value} {i' : Value} {k : Value → Prop} {w : World} (hx : x = x') (hi : i = i') {c0 : Nat} (_ : tick = c0) : lkq t x i ok k w = lkq t x' i' ok k w := by rw [hx, hi]
@[congr] theorem mu_congr {t : TypeId} {m i x : Value} {m' : Value} {i' : Value} {x' : Value} {k : Cont} {w : World} (hm : m = m') (hi : i = i') (hx : x = x') {c0 : Nat} (_ : tick = c0) : mu t m i x k w = mu t m' i' x' k w := by rw [hm, hi, hx]
@[congr] theorem me_congr {t : TypeId} {m i : Value} {m' : Value} {i' : Value} {k : Cont} {w : World} (hm : m = m') (hi : i = i') {c0 : Nat} (_ : tick = c0) : me t m i k w = me t m' i' k w := by rw [hm, hi]
@[congr] theorem es_congr {t : TypeId} {m s x : Value} {m' : Value} {s' : Value} {x' : Value} {k : Cont} {w : World} (hm : m = m') (hs : s = s') (hx : x = x') {c0 : Nat} (_ : tick = c0) : es t m s x k w = es t m' s' x' k w := by rw [hm, hs, hx]
@[congr] theorem rg_congr {t : TypeId} {x : Value} {x' : Value} {k : Cont} {w : World} (hx : x = x') {c0 : Nat} (_ : tick = c0) : rg t x k w = rg t x' k w := by rw [hx]
@[congr] theorem nt_congr {x : Value} {s : Bool} {t : TypeId} {x' : Value} {k : Cont} {w : World} (hx : x = x') {c0 : Nat} (_ : tick = c0) : nt x s t k w = nt x' s t k w := by rw [hx]
@[congr] theorem en_congr {x : Value} {x' : Value} {k : Cont} {w : World} (hx : x = x') {c0 : Nat} (_ : tick = c0) : en x k w = en x' k w := by rw [hx]
@[congr] theorem ex_congr {x : Value} {i : Nat} {x' : Value} {k : Cont} {w : World} (hx : x = x') {c0 : Nat} (_ : tick = c0) : ex x i k w = ex x' i k w := by rw [hx]
@[congr] theorem exq_congr {x : Value} {i : Nat} {x' : Value} {k : Value → Prop} {w : World} (hx : x = x') {c0 : Nat} (_ : tick = c0) : exq x i k w = exq x' i k w := by rw [hx]
@[congr] theorem mi_congr {t : TypeId} {x : Value} {x' : Value} {k : Cont} {w : World} (hx : x = x') {c0 : Nat} (_ : tick = c0) : mi t x k w = mi t x' k w := by rw [hx]
@[congr] theorem miq_congr {t : TypeId} {x : Value} {x' : Value} {k : Value → Prop} {w : World} (hx : x = x') {c0 : Nat} (_ : tick = c0) : miq t x k w = miq t x' k w := by rw [hx]
@[congr] theorem ta_congr {x : Value} {t u : TypeId} {ok : Bool} {x' : Value} {k : Cont} {w : World} (hx : x = x') {c0 : Nat} (_ : tick = c0) : ta x t u ok k w = ta x' t u ok k w := by rw [hx]
@[congr] theorem taq_congr {x : Value} {t u : TypeId} {ok : Bool} {x' : Value} {k : Value → Prop} {w : World} (hx : x = x') {c0 : Nat} (_ : tick = c0) : taq x t u ok k w = taq x' t u ok k w := by rw [hx]
@[congr] theorem bd_congr {t : TypeId} {ps : Array (Nat × Value)} {ps' : Array (Nat × Value)} {k : Cont} {w : World} (hps : ps = ps') {c0 : Nat} (_ : tick = c0) : bd t ps k w = bd t ps' k w := by rw [hps]
@[congr] theorem bdq_congr {t : TypeId} {ps : Array (Nat × Value)} {ps' : Array (Nat × Value)} {k : Value → Prop} {w : World} (hps : ps = ps') {c0 : Nat} (_ : tick = c0) : bdq t ps k w = bdq t ps' k w := by rw [hps]
@[congr] theorem b_append_congr {ats : Array TypeId} {t : TypeId} {xs : Array Value} {xs' : Array Value} {k : Cont} {w : World} (hxs : xs = xs') {c0 : Nat} (_ : tick = c0) : b_append ats t xs k w = b_append ats t xs' k w := by rw [hxs]
@[congr] theorem b_clear_congr {ats : Array TypeId} {t : TypeId} {xs : Array Value} {xs' : Array Value} {k : Cont} {w : World} (hxs : xs = xs') {c0 : Nat} (_ : tick = c0) : b_clear ats t xs k w = b_clear ats t xs' k w := by rw [hxs]
@[congr] theorem b_copy_congr {ats : Array TypeId} {t : TypeId} {xs : Array Value} {xs' : Array Value} {k : Cont} {w : World} (hxs : xs = xs') {c0 : Nat} (_ : tick = c0) : b_copy ats t xs k w = b_copy ats t xs' k w := by rw [hxs]
@[congr] theorem b_delete_congr {ats : Array TypeId} {t : TypeId} {xs : Array Value} {xs' : Array Value} {k : Cont} {w : World} (hxs : xs = xs') {c0 : Nat} (_ : tick = c0) : b_delete ats t xs k w = b_delete ats t xs' k w := by rw [hxs]
@[congr] theorem b_cap_congr {ats : Array TypeId} {t : TypeId} {xs : Array Value} {xs' : Array Value} {k : Cont} {w : World} (hxs : xs = xs') {c0 : Nat} (_ : tick = c0) : b_cap ats t xs k w = b_cap ats t xs' k w := by rw [hxs]
@[congr] theorem b_capq_congr {ats : Array TypeId} {t : TypeId} {xs : Array Value} {xs' : Array Value} {k : Value → Prop} {w : World} (hxs : xs = xs') {c0 : Nat} (_ : tick = c0) : b_capq ats t xs k w = b_capq ats t xs' k w := by rw [hxs]
@[congr] theorem b_len_congr {ats : Array TypeId} {t : TypeId} {xs : Array Value} {xs' : Array Value} {k : Cont} {w : World} (hxs : xs = xs') {c0 : Nat} (_ : tick = c0) : b_len ats t xs k w = b_len ats t xs' k w := by rw [hxs]
@[congr] theorem b_lenq_congr {ats : Array TypeId} {t : TypeId} {xs : Array Value} {xs' : Array Value} {k : Value → Prop} {w : World} (hxs : xs = xs') {c0 : Nat} (_ : tick = c0) : b_lenq ats t xs k w = b_lenq ats t xs' k w := by rw [hxs]
@[congr] theorem b_max_congr {ats : Array TypeId} {t : TypeId} {xs : Array Value} {xs' : Array Value} {k : Cont} {w : World} (hxs : xs = xs') {c0 : Nat} (_ : tick = c0) : b_max ats t xs k w = b_max ats t xs' k w := by rw [hxs]
@[congr] theorem b_maxq_congr {ats : Array TypeId} {t : TypeId} {xs : Array Value} {xs' : Array Value} {k : Value → Prop} {w : World} (hxs : xs = xs') {c0 : Nat} (_ : tick = c0) : b_maxq ats t xs k w = b_maxq ats t xs' k w := by rw [hxs]
@[congr] theorem b_min_congr {ats : Array TypeId} {t : TypeId} {xs : Array Value} {xs' : Array Value} {k : Cont} {w : World} (hxs : xs = xs') {c0 : Nat} (_ : tick = c0) : b_min ats t xs k w = b_min ats t xs' k w := by rw [hxs]
@[congr] theorem b_minq_congr {ats : Array TypeId} {t : TypeId} {xs : Array Value} {xs' : Array Value} {k : Value → Prop} {w : World} (hxs : xs = xs') {c0 : Nat} (_ : tick = c0) : b_minq ats t xs k w = b_minq ats t xs' k w := by rw [hxs]
@[congr] theorem ret_congr {P : Program} {f : FuncId} {xs xs' : Array Value} {k : Cont} {w : World} (h : xs = xs') {c0 : Nat} (_ : tick = c0) : Ret P f xs k w = Ret P f xs' k w := by rw [h]
@[congr] theorem iteW_congr {c c' : Value} {a b : World → Prop} {w : World} (h : c = c') {c0 : Nat} (_ : tick = c0) : iteW c a b w = iteW c' a b w := by rw [h]
@[congr] theorem condW_congr {c c' : Value} {a b : Prop} (h : c = c') {c0 : Nat} (_ : tick = c0) : condW c a b = condW c' a b := by rw [h]

@[congr] theorem iteU_congr {c c' : Value} {a b d : World → Prop} {w : World} (h : c = c') {c0 : Nat} (_ : tick = c0) : iteU c a b d w = iteU c' a b d w := by rw [h]
@[congr] theorem condU_congr {c c' : Value} {a b d : Prop} (h : c = c') {c0 : Nat} (_ : tick = c0) : condU c a b d = condU c' a b d := by rw [h]

/-- A test that is not decided yet. -/
def ifB (c : Bool) (a b : Prop) : Prop :=
  match c with
  | true => a
  | false => b
theorem ifB_pos {c : Bool} {a b : Prop} (h : c = true) : ifB c a b = a := by rw [h]; rfl
theorem ifB_neg {c : Bool} {a b : Prop} (h : c = false) : ifB c a b = b := by rw [h]; rfl
@[simp] theorem ifB_true {a b : Prop} : ifB true a b = a := byEq rfl
@[simp] theorem ifB_false {a b : Prop} : ifB false a b = b := byEq rfl
@[congr] theorem ifB_congr {c c' : Bool} {a b : Prop} (h : c = c') {c0 : Nat} (_ : tick = c0) : ifB c a b = ifB c' a b := by rw [h]

@[simp] theorem nc_pt (a : Addr) (k : Cont) (w : World) : nc (.pointer (some a)) k w = k (.pointer (some a)) w := byEq rfl
@[simp] theorem ncq_pt (a : Addr) (k : Value → Prop) (w : World) : ncq (.pointer (some a)) k w = k (.pointer (some a)) := by
  show (w = w ∧ _) = _
  simp
@[simp] theorem nc_func (f : FuncId) (x y : Array Value) (k : Cont) (w : World) : nc (.func (.func f) x y) k w = k (.func (.func f) x y) w := byEq rfl
@[simp] theorem bx_eq (t : TypeId) (x : Value) (k : Cont) (w : World) : bx t x k w = natK (fun n => k (pt n 0) (w.alloc (.cells x.cells t))) w.heap.size := byEq rfl
@[simp] theorem one_int (kd : IntKind) (n : Int) : (Value.int kd n).oneCell' = true := rfl
@[simp] theorem one_bool (b : Bool) : (Value.bool b).oneCell' = true := rfl
@[simp] theorem one_string (s : ByteArray) : (Value.string s).oneCell' = true := rfl
@[simp] theorem one_pointer (a : Option Addr) : (Value.pointer a).oneCell' = true := rfl
@[simp] theorem one_slice (a : Option Addr) (n c : Nat) : (Value.slice a n c).oneCell' = true := rfl
@[simp] theorem one_map (a : Option Nat) : (Value.map a).oneCell' = true := rfl
@[simp] theorem one_func (f : Fn) (a b : Array Value) : (Value.func f a b).oneCell' = true := rfl
@[simp] theorem cells_agg (cs : Array Value) : (Value.agg cs).cells = cs := rfl
@[simp high] theorem bx_agg (t : TypeId) (cs : Array Value) (k : Cont) (w : World) : bx t (.agg cs) k w = natK (fun n => k (pt n 0) (w.alloc (.cells cs t))) w.heap.size := byEq rfl
@[simp] theorem mm_eq (t : TypeId) (k : Cont) (w : World) : mm t none k w = natK (fun n => k (.map (some n)) (w.alloc (.map #[] 0))) w.heap.size := byEq rfl
@[simp] theorem iteW_bool (c : Bool) (a b : World → Prop) (w : World) : iteW (.bool c) a b w = ifB c (a w) (b w) := by
  unfold iteW ifB; cases c
  · rw [condW_false]
  · rw [condW_true]
@[simp] theorem condW_bool (c : Bool) (a b : Prop) : condW (.bool c) a b = ifB c a b := by
  unfold ifB; cases c
  · rw [condW_false]
  · rw [condW_true]
@[simp] theorem iteU_bool (c : Bool) (a b d : World → Prop) (w : World) : iteU (.bool c) a b d w = ifB c (a w) (b w) := by
  unfold iteU ifB condU; cases c <;> rfl
@[simp] theorem condU_bool (c : Bool) (a b d : Prop) : condU (.bool c) a b d = ifB c a b := by
  unfold ifB condU; cases c <;> rfl
def farEx (vs : Array Value) (i : Nat) (k : Cont) (w : World) : Prop := ex (.tuple vs) i k w
@[simp] theorem ex_tuple (vs : Array Value) (i : Nat) (k : Cont) (w : World) : ex (.tuple vs) i k w = optK (farEx vs i k w) (vs[i]?) (fun v => k v w) := by
  cases h : vs[i]? with
  | none => unfold optK farEx; rfl
  | some v =>
    refine Run_ok ?_
    unfold Instr.extract
    simp only [h]
    rfl
@[simp] theorem exq_tuple (vs : Array Value) (i : Nat) (k : Value → Prop) (w : World) : exq (.tuple vs) i k w = optK (exq (.tuple vs) i k w) (vs[i]?) k := by
  cases h : vs[i]? with
  | none => rfl
  | some v =>
    refine RunQ_ok ?_
    unfold Instr.extract
    simp only [h]
    rfl

def farIa (t : TypeId) (x i : Value) (k : Cont) (w : World) : Prop := ia t x i k w
def farIaq (t : TypeId) (x i : Value) (k : Value → Prop) (w : World) : Prop := iaq t x i k w
theorem ia_slice {t e sz : Nat} (ht : pg.underlying t = some (.slice e)) (hs : (pg.info? e).map (·.size) = some sz) (b o n c : Nat) (kd : IntKind) (j : Int) (k : Cont) (w : World) :
    ia t (.slice (some ⟨b, o, none⟩) n c) (.int kd j) k w = ifK (farIa t (.slice (some ⟨b, o, none⟩) n c) (.int kd j) k w) (decide (0 ≤ j ∧ j < n)) (k (pt b (o + j.toNat * sz)) w) := by
  by_cases h : 0 ≤ j ∧ j < n
  · rw [ifK_pos (by simpa using h)]; exact Run_ok (run_index_slice ht hs b o n c kd j h w)
  · rw [decide_eq_false h]; unfold ifK farIa; rfl
theorem iaq_slice {t e sz : Nat} (ht : pg.underlying t = some (.slice e)) (hs : (pg.info? e).map (·.size) = some sz) (b o n c : Nat) (kd : IntKind) (j : Int) (k : Value → Prop) (w : World) :
    iaq t (.slice (some ⟨b, o, none⟩) n c) (.int kd j) k w = ifK (farIaq t (.slice (some ⟨b, o, none⟩) n c) (.int kd j) k w) (decide (0 ≤ j ∧ j < n)) (k (pt b (o + j.toNat * sz))) := by
  by_cases h : 0 ≤ j ∧ j < n
  · rw [ifK_pos (by simpa using h)]; exact RunQ_ok (run_index_slice ht hs b o n c kd j h w)
  · rw [decide_eq_false h]; unfold ifK farIaq; rfl

section
variable (t : TypeId) (kd : IntKind) (a b : Int) (k : Cont) (q : Value → Prop) (w : World)
@[simp] theorem bo_eql : bo .eql t (.int kd a) (.int kd b) k w = k (.bool (decide (a = b))) w := Run_ok (run_intcmp (P := pg) (by show Sem.pure _ = _; congr 1) (by simp))
@[simp] theorem bo_neq : bo .neq t (.int kd a) (.int kd b) k w = k (.bool (!decide (a = b))) w := Run_ok (run_intcmp (P := pg) (by show Sem.pure _ = _; congr 1) (by simp))
@[simp] theorem bo_lss : bo .lss t (.int kd a) (.int kd b) k w = k (.bool (decide (a < b))) w := Run_ok (run_intcmp (P := pg) (by rfl) (by simp))
@[simp] theorem bo_leq : bo .leq t (.int kd a) (.int kd b) k w = k (.bool (decide (a ≤ b))) w := Run_ok (run_intcmp (P := pg) (by rfl) (by simp))
@[simp] theorem bo_gtr : bo .gtr t (.int kd a) (.int kd b) k w = k (.bool (decide (b < a))) w := Run_ok (run_intcmp (P := pg) (by rfl) (by simp))
@[simp] theorem bo_geq : bo .geq t (.int kd a) (.int kd b) k w = k (.bool (decide (b ≤ a))) w := Run_ok (run_intcmp (P := pg) (by rfl) (by simp))
@[simp] theorem boq_eql : boq .eql t (.int kd a) (.int kd b) q w = q (.bool (decide (a = b))) := RunQ_ok (run_intcmp (P := pg) (by show Sem.pure _ = _; congr 1) (by simp))
@[simp] theorem boq_neq : boq .neq t (.int kd a) (.int kd b) q w = q (.bool (!decide (a = b))) := RunQ_ok (run_intcmp (P := pg) (by show Sem.pure _ = _; congr 1) (by simp))
@[simp] theorem boq_lss : boq .lss t (.int kd a) (.int kd b) q w = q (.bool (decide (a < b))) := RunQ_ok (run_intcmp (P := pg) (by rfl) (by simp))
@[simp] theorem boq_leq : boq .leq t (.int kd a) (.int kd b) q w = q (.bool (decide (a ≤ b))) := RunQ_ok (run_intcmp (P := pg) (by rfl) (by simp))
@[simp] theorem boq_gtr : boq .gtr t (.int kd a) (.int kd b) q w = q (.bool (decide (b < a))) := RunQ_ok (run_intcmp (P := pg) (by rfl) (by simp))
@[simp] theorem boq_geq : boq .geq t (.int kd a) (.int kd b) q w = q (.bool (decide (b ≤ a))) := RunQ_ok (run_intcmp (P := pg) (by rfl) (by simp))
end

section
variable (t : TypeId) (kd : IntKind) (a b : Int) (k : Cont) (q : Value → Prop) (w : World)
@[simp] theorem bo_add : bo .add t (.int kd a) (.int kd b) k w = k (.int kd (kd.wrap (a + b))) w := Run_ok (run_intarith (P := pg) (.inl ⟨rfl, rfl⟩))
@[simp] theorem bo_sub : bo .sub t (.int kd a) (.int kd b) k w = k (.int kd (kd.wrap (a - b))) w := Run_ok (run_intarith (P := pg) (.inr (.inl ⟨rfl, rfl⟩)))
@[simp] theorem bo_mul : bo .mul t (.int kd a) (.int kd b) k w = k (.int kd (kd.wrap (a * b))) w := Run_ok (run_intarith (P := pg) (.inr (.inr ⟨rfl, rfl⟩)))
@[simp] theorem boq_add : boq .add t (.int kd a) (.int kd b) q w = q (.int kd (kd.wrap (a + b))) := RunQ_ok (run_intarith (P := pg) (.inl ⟨rfl, rfl⟩))
@[simp] theorem boq_sub : boq .sub t (.int kd a) (.int kd b) q w = q (.int kd (kd.wrap (a - b))) := RunQ_ok (run_intarith (P := pg) (.inr (.inl ⟨rfl, rfl⟩)))
@[simp] theorem boq_mul : boq .mul t (.int kd a) (.int kd b) q w = q (.int kd (kd.wrap (a * b))) := RunQ_ok (run_intarith (P := pg) (.inr (.inr ⟨rfl, rfl⟩)))
def andI (kd : IntKind) (a b : Int) : Int := kd.wrap (BitVec.ofInt kd.bits a &&& BitVec.ofInt kd.bits b).toNat
@[simp] theorem bo_and : bo .and t (.int kd a) (.int kd b) k w = k (.int kd (andI kd a b)) w := Run_ok (run_intand (P := pg))
@[simp] theorem boq_and : boq .and t (.int kd a) (.int kd b) q w = q (.int kd (andI kd a b)) := RunQ_ok (run_intand (P := pg))
@[simp] theorem uo_not (c : Bool) : uo .not (.bool c) k w = k (.bool (!c)) w := byEq rfl
@[simp] theorem uoq_not (c : Bool) : uoq .not (.bool c) q w = q (.bool (!c)) := RunQ_ok rfl
variable (ats : Array TypeId)
@[simp] theorem b_min2 : b_min ats t #[.int kd a, .int kd b] k w = k (.int kd (if b < a then b else a)) w := Run_ok rfl
@[simp] theorem b_minq2 : b_minq ats t #[.int kd a, .int kd b] q w = q (.int kd (if b < a then b else a)) := RunQ_ok rfl
@[simp] theorem b_max2 : b_max ats t #[.int kd a, .int kd b] k w = k (.int kd (if a < b then b else a)) w := Run_ok rfl
@[simp] theorem b_maxq2 : b_maxq ats t #[.int kd a, .int kd b] q w = q (.int kd (if a < b then b else a)) := RunQ_ok rfl
end
end Go.Proofs.Ytpdcllhmbjnooaa
