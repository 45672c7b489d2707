import Derived.Test.YtpdcllhmbjnooaaS1
/- The functions of the program as predicates over values; printed by a program (shallow.py). -/
namespace Go.Proofs.Ytpdcllhmbjnooaa
open Go.Dc
set_option maxRecDepth 100000

def lodestarlaw18_SessionRoom_j3 (Q : Cont) : World → Prop :=
  Q (.bool true)
def lodestarlaw18_SessionRoom_j6 (_Q : Cont) (nx0 : Value → Value → Value → World → Prop) (t1_l t5_b t6_i : Value) : World → Prop :=
  bo .add 3 t6_i (.int .i64 1) fun v1 => nx0 t1_l t5_b v1
def lodestarlaw18_SessionRoom_j11 (Q : Cont) (nx0 : Value → Value → Value → World → Prop) (t1_l t5_b t6_i t7_seen : Value) : World → Prop :=
  b_len #[43] 3 #[t7_seen] fun v2 => nc t5_b fun v3 => fa 72 v3 0 fun v4 => ld 40 v4 fun v5 => Ret pg n_session_Hub_Conns #[v5] fun v6 => bo .gtr 3 v2 v6 fun v7 => iteW v7 (Q (.bool false)) (lodestarlaw18_SessionRoom_j6 Q nx0 t1_l t5_b t6_i)
def lodestarlaw18_SessionRoom_j14 (_Q : Cont) (_nx0 : Value → Value → Value → World → Prop) (nx1 : Value → Value → Value → Value → Value → World → Prop) (t1_l t5_b t6_i t7_seen t8_t : Value) : World → Prop :=
  bo .add 23 t8_t (.int .u64 1) fun v8 => nx1 t1_l t5_b t6_i t7_seen v8
def lodestarlaw18_SessionRoom_j16 (Q : Cont) (nx0 : Value → Value → Value → World → Prop) (nx1 : Value → Value → Value → Value → Value → World → Prop) (t1_l t5_b t6_i t7_seen t8_t t9_n t10_ok : Value) : World → Prop :=
  iteW t10_ok (bs 43 1 #[(0, t9_n)] fun v9 => b_append #[43, 43] 43 #[t7_seen, v9] fun v10 => lodestarlaw18_SessionRoom_j14 Q nx0 nx1 t1_l t5_b t6_i v10 t8_t) (lodestarlaw18_SessionRoom_j14 Q nx0 nx1 t1_l t5_b t6_i t7_seen t8_t)
def lodestarlaw18_SessionRoom_j17 (Q : Cont) (nx0 : Value → Value → Value → World → Prop) (nx1 : Value → Value → Value → Value → Value → World → Prop) (t1_l t5_b t6_i t7_seen t8_t t9_n t10_ok t76 : Value) : World → Prop :=
  iteW t76 (Q (.bool false)) (lodestarlaw18_SessionRoom_j16 Q nx0 nx1 t1_l t5_b t6_i t7_seen t8_t t9_n t10_ok)
def lodestarlaw18_SessionRoom_j15 (Q : Cont) (nx0 : Value → Value → Value → World → Prop) (nx1 : Value → Value → Value → Value → Value → World → Prop) (t1_l t5_b t6_i t7_seen t8_t t9_n t10_ok : Value) : World → Prop :=
  iteW t10_ok (Ret pg n_lodestarref11_Has #[t7_seen, t9_n] fun v11 => lodestarlaw18_SessionRoom_j17 Q nx0 nx1 t1_l t5_b t6_i t7_seen t8_t t9_n t10_ok v11) (lodestarlaw18_SessionRoom_j17 Q nx0 nx1 t1_l t5_b t6_i t7_seen t8_t t9_n t10_ok (.bool false))
def lodestarlaw18_SessionRoom_j13 (Q : Cont) (nx0 : Value → Value → Value → World → Prop) (nx1 : Value → Value → Value → Value → Value → World → Prop) (t1_l t5_b t6_i t7_seen t8_t : Value) : World → Prop :=
  nc t5_b fun v12 => fa 72 v12 0 fun v13 => ld 40 v13 fun v14 => Ret pg n_session_Hub_Conn #[v14, t8_t] fun v15 => ex v15 0 fun v16 => ex v15 1 fun v17 => lodestarlaw18_SessionRoom_j15 Q nx0 nx1 t1_l t5_b t6_i t7_seen t8_t v16 v17
def lodestarlaw18_SessionRoom_l1b (Q : Cont) (nx0 : Value → Value → Value → World → Prop) (nx1 : Value → Value → Value → Value → Value → World → Prop) (t1_l t5_b t6_i t7_seen t8_t : Value) : World → Prop :=
  nc t5_b fun v18 => fa 72 v18 1 fun v19 => ld 69 v19 fun v20 => nc v20 fun v21 => fa 75 v21 5 fun v22 => ld 23 v22 fun v23 => bo .leq 23 t8_t v23 fun v24 => iteW v24 (lodestarlaw18_SessionRoom_j13 Q nx0 nx1 t1_l t5_b t6_i t7_seen t8_t) (lodestarlaw18_SessionRoom_j11 Q nx0 t1_l t5_b t6_i t7_seen)
def lodestarlaw18_SessionRoom_l1 (Q : Cont) (nx0 : Value → Value → Value → World → Prop) (t1_l t5_b t6_i t7_seen t8_t : Value) : World → Prop :=
  LoopW (fun (nx : Value × Value × Value × Value × Value → World → Prop) (s : Value × Value × Value × Value × Value) => lodestarlaw18_SessionRoom_l1b Q nx0 (fun x0 x1 x2 x3 x4 => nx (x0, x1, x2, x3, x4)) s.1 s.2.1 s.2.2.1 s.2.2.2.1 s.2.2.2.2) (t1_l, t5_b, t6_i, t7_seen, t8_t)
def lodestarlaw18_SessionRoom_j12 (Q : Cont) (nx0 : Value → Value → Value → World → Prop) (t1_l t5_b t6_i t7_seen t8_t : Value) : World → Prop :=
  lodestarlaw18_SessionRoom_l1 Q nx0 t1_l t5_b t6_i t7_seen t8_t
def lodestarlaw18_SessionRoom_j10 (Q : Cont) (nx0 : Value → Value → Value → World → Prop) (t1_l t5_b t6_i t7_seen : Value) : World → Prop :=
  lodestarlaw18_SessionRoom_j12 Q nx0 t1_l t5_b t6_i t7_seen (.int .u64 1)
def lodestarlaw18_SessionRoom_j9 (Q : Cont) (nx0 : Value → Value → Value → World → Prop) (t1_l t5_b t6_i : Value) : World → Prop :=
  lodestarlaw18_SessionRoom_j10 Q nx0 t1_l t5_b t6_i (.slice none 0 0)
def lodestarlaw18_SessionRoom_j18 (Q : Cont) (nx0 : Value → Value → Value → World → Prop) (t1_l t5_b t6_i t50 : Value) : World → Prop :=
  iteW t50 (Q (.bool false)) (lodestarlaw18_SessionRoom_j9 Q nx0 t1_l t5_b t6_i)
def lodestarlaw18_SessionRoom_j8 (Q : Cont) (nx0 : Value → Value → Value → World → Prop) (t1_l t5_b t6_i : Value) : World → Prop :=
  nc t5_b fun v25 => fa 72 v25 0 fun v26 => ld 40 v26 fun v27 => Ret pg n_session_Hub_Conns #[v27] fun v28 => bo .gtr 3 v28 (.int .i64 8) fun v29 => iteW v29 (lodestarlaw18_SessionRoom_j18 Q nx0 t1_l t5_b t6_i (.bool true)) (nc t5_b fun v30 => fa 72 v30 0 fun v31 => ld 40 v31 fun v32 => Ret pg n_session_Hub_Sessions #[v32] fun v33 => bo .gtr 3 v33 (.int .i64 8) fun v34 => lodestarlaw18_SessionRoom_j18 Q nx0 t1_l t5_b t6_i v34)
def lodestarlaw18_SessionRoom_j7 (Q : Cont) (nx0 : Value → Value → Value → World → Prop) (t1_l t5_b t6_i : Value) : World → Prop :=
  ia 62 t1_l t6_i fun v35 => ld 66 v35 fun v36 => Ret pg n_lodestarlaw18_Both_Do #[t5_b, v36] fun _ => lodestarlaw18_SessionRoom_j8 Q nx0 t1_l t5_b t6_i
def lodestarlaw18_SessionRoom_j5 (Q : Cont) (nx0 : Value → Value → Value → World → Prop) (t1_l t5_b t6_i : Value) : World → Prop :=
  ia 62 t1_l t6_i fun v38 => fa 66 v38 2 fun v39 => ld 37 v39 fun v40 => Ret pg n_lodestarref06_Great #[v40] fun v41 => iteW v41 (Q (.bool true)) (lodestarlaw18_SessionRoom_j7 Q nx0 t1_l t5_b t6_i)
def lodestarlaw18_SessionRoom_j19 (Q : Cont) (nx0 : Value → Value → Value → World → Prop) (t1_l t5_b t6_i t22 : Value) : World → Prop :=
  iteW t22 (lodestarlaw18_SessionRoom_j5 Q nx0 t1_l t5_b t6_i) (lodestarlaw18_SessionRoom_j3 Q)
def lodestarlaw18_SessionRoom_l0b (Q : Cont) (nx0 : Value → Value → Value → World → Prop) (t1_l t5_b t6_i : Value) : World → Prop :=
  b_len #[62] 3 #[t1_l] fun v42 => bo .lss 3 t6_i v42 fun v43 => iteW v43 (bo .lss 3 t6_i (.int .i64 100) fun v44 => lodestarlaw18_SessionRoom_j19 Q nx0 t1_l t5_b t6_i v44) (lodestarlaw18_SessionRoom_j19 Q nx0 t1_l t5_b t6_i (.bool false))
def lodestarlaw18_SessionRoom_l0 (Q : Cont) (t1_l t5_b t6_i : Value) : World → Prop :=
  LoopW (fun (nx : Value × Value × Value → World → Prop) (s : Value × Value × Value) => lodestarlaw18_SessionRoom_l0b Q (fun x0 x1 x2 => nx (x0, x1, x2)) s.1 s.2.1 s.2.2) (t1_l, t5_b, t6_i)
def lodestarlaw18_SessionRoom_j4 (Q : Cont) (t1_l t5_b t6_i : Value) : World → Prop :=
  lodestarlaw18_SessionRoom_l0 Q t1_l t5_b t6_i
def lodestarlaw18_SessionRoom_j2 (Q : Cont) (t1_l t5_b : Value) : World → Prop :=
  lodestarlaw18_SessionRoom_j4 Q t1_l t5_b (.int .i64 0)
def lodestarlaw18_SessionRoom_j1 (Q : Cont) (t0_caps t1_l : Value) : World → Prop :=
  Ret pg n_lodestarlaw18_Begin #[t0_caps, (.int .i64 4), (.int .u32 20)] fun v45 => lodestarlaw18_SessionRoom_j2 Q t1_l v45
def lodestarlaw18_SessionRoom_j0 (Q : Cont) (t0_caps t1_l : Value) : World → Prop :=
  Ret pg n_lodestarlaw18_alive #[] fun v46 => uo .not v46 fun v47 => iteW v47 (Q (.bool false)) (lodestarlaw18_SessionRoom_j1 Q t0_caps t1_l)
/-- F7 lodestar/lodestarlaw18.SessionRoom(caps, l) -/
def lodestarlaw18_SessionRoom (Q : Cont) (a0 a1 : Value) : World → Prop :=
  lodestarlaw18_SessionRoom_j0 Q a0 a1
theorem lodestarlaw18_SessionRoom_ok {Q : Cont} {a0 a1 : Value} {w : World} (H : lodestarlaw18_SessionRoom Q a0 a1 w) : Ret pg n_lodestarlaw18_SessionRoom #[a0, a1] Q w :=
  fn_sound (args := [a0, a1]) follows_pg Try.func7 (by kernel_rfl) (by kernel_rfl) (by kernel_rfl) ((fun (E : Env) (w : World) (H : lodestarlaw18_SessionRoom Q (E 0) (E 1) w) => swp_join (fun (E : Env) (w : World) => lodestarlaw18_SessionRoom_j0 Q (E 0) (E 1) w) (fun E w H => swp_join (fun (E : Env) (w : World) => lodestarlaw18_SessionRoom_j1 Q (E 0) (E 1) w) (fun E w H => swp_join (fun (E : Env) (w : World) => lodestarlaw18_SessionRoom_j2 Q (E 1) (E 5) w) (fun E w H => swp_join (fun (E : Env) (w : World) => lodestarlaw18_SessionRoom_j3 Q w) (fun E w H => cast_of (by kernel_rfl) H) (swp_join (fun (E : Env) (w : World) => lodestarlaw18_SessionRoom_j4 Q (E 1) (E 5) (E 6) w) (fun E w H => swp_block (swp_loop (fun (E : Env) => (E 1, E 5, E 6)) _ (fun nx0 E w H => swp_join (fun (E : Env) (w : World) => lodestarlaw18_SessionRoom_j5 Q (fun x0 x1 x2 => nx0 (x0, x1, x2)) (E 1) (E 5) (E 6) w) (fun E w H => swp_join (fun (E : Env) (w : World) => lodestarlaw18_SessionRoom_j6 Q (fun x0 x1 x2 => nx0 (x0, x1, x2)) (E 1) (E 5) (E 6) w) (fun E w H => cast_of (by kernel_rfl) H) (swp_block (swp_join (fun (E : Env) (w : World) => lodestarlaw18_SessionRoom_j7 Q (fun x0 x1 x2 => nx0 (x0, x1, x2)) (E 1) (E 5) (E 6) w) (fun E w H => swp_join (fun (E : Env) (w : World) => lodestarlaw18_SessionRoom_j8 Q (fun x0 x1 x2 => nx0 (x0, x1, x2)) (E 1) (E 5) (E 6) w) (fun E w H => swp_join (fun (E : Env) (w : World) => lodestarlaw18_SessionRoom_j9 Q (fun x0 x1 x2 => nx0 (x0, x1, x2)) (E 1) (E 5) (E 6) w) (fun E w H => swp_join (fun (E : Env) (w : World) => lodestarlaw18_SessionRoom_j10 Q (fun x0 x1 x2 => nx0 (x0, x1, x2)) (E 1) (E 5) (E 6) (E 7) w) (fun E w H => swp_join (fun (E : Env) (w : World) => lodestarlaw18_SessionRoom_j11 Q (fun x0 x1 x2 => nx0 (x0, x1, x2)) (E 1) (E 5) (E 6) (E 7) w) (fun E w H => cast_of (by kernel_rfl) H) (swp_join (fun (E : Env) (w : World) => lodestarlaw18_SessionRoom_j12 Q (fun x0 x1 x2 => nx0 (x0, x1, x2)) (E 1) (E 5) (E 6) (E 7) (E 8) w) (fun E w H => swp_block (swp_loop (fun (E : Env) => (E 1, E 5, E 6, E 7, E 8)) _ (fun nx1 E w H => swp_join (fun (E : Env) (w : World) => lodestarlaw18_SessionRoom_j13 Q (fun x0 x1 x2 => nx0 (x0, x1, x2)) (fun x0 x1 x2 x3 x4 => nx1 (x0, x1, x2, x3, x4)) (E 1) (E 5) (E 6) (E 7) (E 8) w) (fun E w H => swp_join (fun (E : Env) (w : World) => lodestarlaw18_SessionRoom_j14 Q (fun x0 x1 x2 => nx0 (x0, x1, x2)) (fun x0 x1 x2 x3 x4 => nx1 (x0, x1, x2, x3, x4)) (E 1) (E 5) (E 6) (E 7) (E 8) w) (fun E w H => cast_of (by kernel_rfl) H) (swp_block (swp_join (fun (E : Env) (w : World) => lodestarlaw18_SessionRoom_j15 Q (fun x0 x1 x2 => nx0 (x0, x1, x2)) (fun x0 x1 x2 x3 x4 => nx1 (x0, x1, x2, x3, x4)) (E 1) (E 5) (E 6) (E 7) (E 8) (E 9) (E 10) w) (fun E w H => swp_join (fun (E : Env) (w : World) => lodestarlaw18_SessionRoom_j16 Q (fun x0 x1 x2 => nx0 (x0, x1, x2)) (fun x0 x1 x2 x3 x4 => nx1 (x0, x1, x2, x3, x4)) (E 1) (E 5) (E 6) (E 7) (E 8) (E 9) (E 10) w) (fun E w H => cast_of (by kernel_rfl) H) (swp_join (fun (E : Env) (w : World) => lodestarlaw18_SessionRoom_j17 Q (fun x0 x1 x2 => nx0 (x0, x1, x2)) (fun x0 x1 x2 x3 x4 => nx1 (x0, x1, x2, x3, x4)) (E 1) (E 5) (E 6) (E 7) (E 8) (E 9) (E 10) (E 76) w) (fun E w H => cast_of (by kernel_rfl) H) (cast_of (by kernel_rfl) H))) (cast_of (by kernel_rfl) H)))) (cast_of (by kernel_rfl) H)) H)) (cast_of (by kernel_rfl) H))) (cast_of (by kernel_rfl) H)) (swp_join (fun (E : Env) (w : World) => lodestarlaw18_SessionRoom_j18 Q (fun x0 x1 x2 => nx0 (x0, x1, x2)) (E 1) (E 5) (E 6) (E 50) w) (fun E w H => cast_of (by kernel_rfl) H) (cast_of (by kernel_rfl) H))) (cast_of (by kernel_rfl) H)) (cast_of (by kernel_rfl) H)))) (swp_join (fun (E : Env) (w : World) => lodestarlaw18_SessionRoom_j19 Q (fun x0 x1 x2 => nx0 (x0, x1, x2)) (E 1) (E 5) (E 6) (E 22) w) (fun E w H => cast_of (by kernel_rfl) H) (cast_of (by kernel_rfl) H))) H)) (cast_of (by kernel_rfl) H))) (cast_of (by kernel_rfl) H)) (cast_of (by kernel_rfl) H)) (cast_of (by kernel_rfl) H) : ∀ (E : Env) (w : World), lodestarlaw18_SessionRoom Q (E 0) (E 1) w → swp pg Try.f7.ntmps (bodyOf Try.f7) (retW pg Try.f7.results Q) E w) (argE [a0, a1]) w H)


end Go.Proofs.Ytpdcllhmbjnooaa
