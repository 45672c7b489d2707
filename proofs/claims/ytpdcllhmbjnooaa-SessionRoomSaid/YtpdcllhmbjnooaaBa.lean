/- Words of the printed functions. -/
import Derived.Test.YtpdcllhmbjnooaaLi
import Derived.Test.YtpdcllhmbjnooaaProg
namespace Go.Proofs.Ytpdcllhmbjnooaa
open Go.Dc

noncomputable abbrev pg : Program := Try.prog
theorem follows_pg : pg.follows .mixedOrders = true := by kernel_rfl

theorem cast_of {A B : Prop} (h : A = B) (a : A) : B := h ▸ a
theorem swp_seq {P : Program} {n : Nat} {x y : Code} {Q : Exit → Env → World → Prop} {E : Env} {w : World} (h : swp P n x (afterThen (swp P n y Q) Q) E w) : swp P n (.seq x y) Q E w := h
theorem swp_block {P : Program} {n id : Nat} {x : Code} {Q : Exit → Env → World → Prop} {E : Env} {w : World} (h : swp P n x (inBlk id Q) E w) : swp P n (.block id x) Q E w := h
def iteW (c : Value) (a b : World → Prop) : World → Prop := fun w => condW c (a w) (b w)
def iteU (c : Value) (a b d : World → Prop) : World → Prop := fun w => condU c (a w) (b w) (d w)
def callV (x : Value) (args : Array Value) (k : Cont) (w : World) : Prop :=
  match x with
  | .func (.func f) fs cs => Ret pg f (fs ++ args ++ cs) k w
  | _ => False

def pk (c a b : Value) := Run pg (pickS c a b)
def pkq (c a b : Value) := RunQ pg (pickS c a b)
def al (t : TypeId) := Run pg (Instr.alloc t true (.tuple #[]))
def bx (t : TypeId) (x : Value) := Run pg (Instr.box t x)
def bd (t : TypeId) (ps : Array (Nat × Value)) := Run pg (Instr.build t ps)
def bdq (t : TypeId) (ps : Array (Nat × Value)) := RunQ pg (Instr.build t ps)
def bs (t : TypeId) (n : Nat) (ps : Array (Nat × Value)) := Run pg (Instr.buildSlice t n ps)
def ld (t : TypeId) (a : Value) := Run pg (Instr.loadAt t a)
def ldq (t : TypeId) (a : Value) := RunQ pg (Instr.loadAt t a)
def st (t : TypeId) (a x : Value) := Run pg (unitS (Instr.storeAt t a x))
def nc (x : Value) := Run pg (nilChk x)
def ncq (x : Value) := RunQ pg (nilChk x)
def bo (o : BinOp) (t : TypeId) (a b : Value) := Run pg (binS o t a b)
def boq (o : BinOp) (t : TypeId) (a b : Value) := RunQ pg (binS o t a b)
def uo (o : UnOp) (x : Value) := Run pg (Op.unary o x)
def uoq (o : UnOp) (x : Value) := RunQ pg (Op.unary o x)
def cv (s d : TypeId) (x : Value) := Run pg (convert s d x)
def cvq (s d : TypeId) (x : Value) := RunQ pg (convert s d x)
def mf (f : Fn) (a b : Array Value) := Run pg (Instr.makeFunc f a b)
def mfq (f : Fn) (a b : Array Value) := RunQ pg (Instr.makeFunc f a b)
def mm (t : TypeId) (r : Option Value) := Run pg (Instr.makeMap t r)
def ms (t : TypeId) (l c : Value) := Run pg (Instr.makeSlice t l c)
def sl (t : TypeId) (x : Value) (a b c : Option Value) := Run pg (Instr.sliceAt t x a b c)
def slq (t : TypeId) (x : Value) (a b c : Option Value) := RunQ pg (Instr.sliceAt t x a b c)
def fa (t : TypeId) (x : Value) (f : Nat) := Run pg (Instr.fieldAt t x f)
def faq (t : TypeId) (x : Value) (f : Nat) := RunQ pg (Instr.fieldAt t x f)
def fd (t : TypeId) (x : Value) (f : Nat) := Run pg (Instr.field t x f)
def fdq (t : TypeId) (x : Value) (f : Nat) := RunQ pg (Instr.field t x f)
def ia (t : TypeId) (x i : Value) := Run pg (Instr.indexAt t x i)
def iaq (t : TypeId) (x i : Value) := RunQ pg (Instr.indexAt t x i)
def ix (t : TypeId) (x i : Value) := Run pg (Instr.index t x i)
def ixq (t : TypeId) (x i : Value) := RunQ pg (Instr.index t x i)
def lk (t : TypeId) (x i : Value) (ok : Bool) := Run pg (Instr.lookup t x i ok)
def lkq (t : TypeId) (x i : Value) (ok : Bool) := RunQ pg (Instr.lookup t x i ok)
def mu (t : TypeId) (m i x : Value) := Run pg (unitS (Instr.mapUpdate t m i x))
def me (t : TypeId) (m i : Value) := Run pg (Instr.mapEntry t m i)
def es (t : TypeId) (m s x : Value) := Run pg (unitS (Instr.entryStore t m s x))
def rg (t : TypeId) (x : Value) := Run pg (Instr.range t x)
def nt (x : Value) (s : Bool) (t : TypeId) := Run pg (Instr.next x s t)
def en (x : Value) := Run pg (Instr.entry x)
def ex (x : Value) (i : Nat) := Run pg (Instr.extract x i)
def exq (x : Value) (i : Nat) := RunQ pg (Instr.extract x i)
def mi (t : TypeId) (x : Value) := Run pg (Instr.makeInterface t x)
def miq (t : TypeId) (x : Value) := RunQ pg (Instr.makeInterface t x)
def ta (x : Value) (t u : TypeId) (ok : Bool) := Run pg (Instr.typeAssert x t u ok)
def taq (x : Value) (t u : TypeId) (ok : Bool) := RunQ pg (Instr.typeAssert x t u ok)
def b_append (ats : Array TypeId) (t : TypeId) (xs : Array Value) := Run pg (Builtin.append_ ats t xs)
def b_clear (ats : Array TypeId) (t : TypeId) (xs : Array Value) := Run pg (Builtin.clear_ ats t xs)
def b_copy (ats : Array TypeId) (t : TypeId) (xs : Array Value) := Run pg (Builtin.copy_ ats t xs)
def b_delete (ats : Array TypeId) (t : TypeId) (xs : Array Value) := Run pg (Builtin.delete_ ats t xs)
def b_cap (ats : Array TypeId) (t : TypeId) (xs : Array Value) := Run pg (Builtin.cap_ ats t xs)
def b_capq (ats : Array TypeId) (t : TypeId) (xs : Array Value) := RunQ pg (Builtin.cap_ ats t xs)
def b_len (ats : Array TypeId) (t : TypeId) (xs : Array Value) := Run pg (Builtin.len_ ats t xs)
def b_lenq (ats : Array TypeId) (t : TypeId) (xs : Array Value) := RunQ pg (Builtin.len_ ats t xs)
def b_max (ats : Array TypeId) (t : TypeId) (xs : Array Value) := Run pg (Builtin.max_ ats t xs)
def b_maxq (ats : Array TypeId) (t : TypeId) (xs : Array Value) := RunQ pg (Builtin.max_ ats t xs)
def b_min (ats : Array TypeId) (t : TypeId) (xs : Array Value) := Run pg (Builtin.min_ ats t xs)
def b_minq (ats : Array TypeId) (t : TypeId) (xs : Array Value) := RunQ pg (Builtin.min_ ats t xs)
end Go.Proofs.Ytpdcllhmbjnooaa
