import Derived.Test.YtpdcllhmbjnooaaNm
/- The functions of the program as predicates over values; printed by a program (shallow.py). -/
namespace Go.Proofs.Ytpdcllhmbjnooaa
open Go.Dc
set_option maxRecDepth 100000

/-- F10 lodestar/session.New(caps, size, away) -/
def session_New (Q : Cont) (a0 a1 a2 : Value) : World → Prop :=
  mm 81 none fun v1 => mm 82 none fun v2 => bd 84 #[(0, a0), (1, a1), (2, a2), (3, v1), (4, v2)] fun v3 => bx 84 v3 fun v4 => Q v4
theorem session_New_ok {Q : Cont} {a0 a1 a2 : Value} {w : World} (H : session_New Q a0 a1 a2 w) : Ret pg n_session_New #[a0, a1, a2] Q w :=
  fn_sound (args := [a0, a1, a2]) follows_pg Try.func10 (by kernel_rfl) (by kernel_rfl) (by kernel_rfl) ((fun (E : Env) (w : World) (H : session_New Q (E 0) (E 1) (E 2) w) => cast_of (by kernel_rfl) H : ∀ (E : Env) (w : World), session_New Q (E 0) (E 1) (E 2) w → swp pg Try.f10.ntmps (bodyOf Try.f10) (retW pg Try.f10.results Q) E w) (argE [a0, a1, a2]) w H)

/-- F12 (*lodestar/session.Hub).Open(h, n) -/
def session_Hub_Open (Q : Cont) (a0 a1 : Value) : World → Prop :=
  nc a0 fun v1 => fa 84 v1 3 fun v2 => ld 81 v2 fun v3 => lk 81 v3 a1 false fun v4 => bo .neq 85 v4 (.pointer none) fun v5 => iteW v5 (Q (.int .i64 3)) (nc a0 fun v6 => fa 84 v6 3 fun v7 => ld 81 v7 fun v8 => b_len #[81] 3 #[v8] fun v9 => bo .geq 3 v9 (.int .i64 8) fun v10 => iteW v10 (Q (.int .i64 4)) (nc a0 fun v11 => fa 84 v11 3 fun v12 => ld 81 v12 fun v13 => bd 88 #[(0, a1)] fun v14 => bx 88 v14 fun v15 => mu 81 v13 a1 v15 fun _ => Q (.int .i64 0)))
theorem session_Hub_Open_ok {Q : Cont} {a0 a1 : Value} {w : World} (H : session_Hub_Open Q a0 a1 w) : Ret pg n_session_Hub_Open #[a0, a1] Q w :=
  fn_sound (args := [a0, a1]) follows_pg Try.func12 (by kernel_rfl) (by kernel_rfl) (by kernel_rfl) ((fun (E : Env) (w : World) (H : session_Hub_Open Q (E 0) (E 1) w) => cast_of (by kernel_rfl) H : ∀ (E : Env) (w : World), session_Hub_Open Q (E 0) (E 1) w → swp pg Try.f12.ntmps (bodyOf Try.f12) (retW pg Try.f12.results Q) E w) (argE [a0, a1]) w H)

def session_Hub_Close_j4 (Q : Cont) : World → Prop :=
  Q (.bool true)
def session_Hub_Close_j3 (Q : Cont) (t2_now t7_c : Value) : World → Prop :=
  nc t7_c fun v1 => fa 88 v1 1 fun v2 => ld 86 v2 fun v3 => bo .neq 86 v3 (.pointer none) fun v4 => iteW v4 ((fun w0 => ncq t7_c (fun v5 => faq 88 v5 1 (fun v6 => ldq 86 v6 (fun v7 => ncq t7_c (fun v8 => faq 88 v8 1 (fun v9 => ldq 86 v9 (fun v10 => ncq v7 (fun v11 => faq 94 v11 4 (fun v12 => st 85 v12 (.pointer none) (fun _ w1 => ncq v10 (fun v13 => faq 94 v13 5 (fun v14 => st 22 v14 t2_now (fun _ w2 => (session_Hub_Close_j4 Q) w2) w1) w1) w1) (drw w0)) (drw w0)) (drw w0)) (drw w0)) (drw w0)) (drw w0)) (drw w0)) (drw w0)) (drw w0))) (session_Hub_Close_j4 Q)
def session_Hub_Close_j2 (Q : Cont) (t0_h t1_n t2_now t7_c : Value) : World → Prop :=
  nc t0_h fun v15 => fa 84 v15 3 fun v16 => ld 81 v16 fun v17 => b_delete #[81, 3] 0 #[v17, t1_n] fun _ => session_Hub_Close_j3 Q t2_now t7_c
def session_Hub_Close_j1 (Q : Cont) (t0_h t1_n t2_now t7_c : Value) : World → Prop :=
  bo .eql 85 t7_c (.pointer none) fun v18 => iteW v18 (Q (.bool false)) (session_Hub_Close_j2 Q t0_h t1_n t2_now t7_c)
def session_Hub_Close_j0 (Q : Cont) (t0_h t1_n t2_now : Value) : World → Prop :=
  nc t0_h fun v19 => fa 84 v19 3 fun v20 => ld 81 v20 fun v21 => lk 81 v21 t1_n false fun v22 => session_Hub_Close_j1 Q t0_h t1_n t2_now v22
/-- F21 (*lodestar/session.Hub).Close(h, n, now) -/
def session_Hub_Close (Q : Cont) (a0 a1 a2 : Value) : World → Prop :=
  session_Hub_Close_j0 Q a0 a1 a2
theorem session_Hub_Close_ok {Q : Cont} {a0 a1 a2 : Value} {w : World} (H : session_Hub_Close Q a0 a1 a2 w) : Ret pg n_session_Hub_Close #[a0, a1, a2] Q w :=
  fn_sound (args := [a0, a1, a2]) follows_pg Try.func21 (by kernel_rfl) (by kernel_rfl) (by kernel_rfl) ((fun (E : Env) (w : World) (H : session_Hub_Close Q (E 0) (E 1) (E 2) w) => swp_join (fun (E : Env) (w : World) => session_Hub_Close_j0 Q (E 0) (E 1) (E 2) w) (fun E w H => swp_join (fun (E : Env) (w : World) => session_Hub_Close_j1 Q (E 0) (E 1) (E 2) (E 7) w) (fun E w H => swp_join (fun (E : Env) (w : World) => session_Hub_Close_j2 Q (E 0) (E 1) (E 2) (E 7) w) (fun E w H => swp_join (fun (E : Env) (w : World) => session_Hub_Close_j3 Q (E 2) (E 7) w) (fun E w H => swp_join (fun (E : Env) (w : World) => session_Hub_Close_j4 Q w) (fun E w H => cast_of (by kernel_rfl) H) (cast_of (by kernel_rfl) H)) (cast_of (by kernel_rfl) H)) (cast_of (by kernel_rfl) H)) (cast_of (by kernel_rfl) H)) (cast_of (by kernel_rfl) H) : ∀ (E : Env) (w : World), session_Hub_Close Q (E 0) (E 1) (E 2) w → swp pg Try.f21.ntmps (bodyOf Try.f21) (retW pg Try.f21.results Q) E w) (argE [a0, a1, a2]) w H)

/-- F29 (*lodestar/session.Hub).shut(h, c, now, kind, e) -/
def session_Hub_shut (Q : Cont) (a0 a1 a2 a3 a4 : Value) : World → Prop :=
  al 45 fun v1 => nc a1 fun v2 => fa 88 v2 0 fun v3 => ld 3 v3 fun v4 => Ret pg n_session_Hub_Close #[a0, v4, a2] fun _ => cv 46 5 a4 fun v6 => bd 37 #[(0, a3), (4, v6)] fun v7 => bs 42 1 #[(0, v7)] fun v8 => nc a1 fun v9 => fa 88 v9 0 fun v10 => ld 3 v10 fun v11 => bs 43 1 #[(0, v11)] fun v12 => bd 45 #[(0, v8), (1, v12)] fun v13 => st 45 v1 v13 fun _ => (fun w => ldq 45 v1 (fun v14 => Q v14 w) w)
theorem session_Hub_shut_ok {Q : Cont} {a0 a1 a2 a3 a4 : Value} {w : World} (H : session_Hub_shut Q a0 a1 a2 a3 a4 w) : Ret pg n_session_Hub_shut #[a0, a1, a2, a3, a4] Q w :=
  fn_sound (args := [a0, a1, a2, a3, a4]) follows_pg Try.func29 (by kernel_rfl) (by kernel_rfl) (by kernel_rfl) ((fun (E : Env) (w : World) (H : session_Hub_shut Q (E 0) (E 1) (E 2) (E 3) (E 4) w) => cast_of (by kernel_rfl) H : ∀ (E : Env) (w : World), session_Hub_shut Q (E 0) (E 1) (E 2) (E 3) (E 4) w → swp pg Try.f29.ntmps (bodyOf Try.f29) (retW pg Try.f29.results Q) E w) (argE [a0, a1, a2, a3, a4]) w H)

/-- F51 lodestar/dedup.New() -/
def dedup_New (Q : Cont) : World → Prop :=
  mm 126 none fun v1 => bd 128 #[(2, v1)] fun v2 => bx 128 v2 fun v3 => Q v3
theorem dedup_New_ok {Q : Cont} {w : World} (H : dedup_New Q  w) : Ret pg n_dedup_New #[] Q w :=
  fn_sound (args := []) follows_pg Try.func51 (by kernel_rfl) (by kernel_rfl) (by kernel_rfl) ((fun (E : Env) (w : World) (H : dedup_New Q  w) => cast_of (by kernel_rfl) H : ∀ (E : Env) (w : World), dedup_New Q  w → swp pg Try.f51.ntmps (bodyOf Try.f51) (retW pg Try.f51.results Q) E w) (argE []) w H)

/-- F76 (*sync/atomic.Uint32).Store(x, val) -/
def sync_atomic_Uint32_Store (Q : Cont) (a0 a1 : Value) : World → Prop :=
  nc a0 fun v1 => fa 132 v1 1 fun v2 => Ret pg n_sync_atomic_StoreUint32 #[v2, a1] fun _ => Q (.tuple #[])
theorem sync_atomic_Uint32_Store_ok {Q : Cont} {a0 a1 : Value} {w : World} (H : sync_atomic_Uint32_Store Q a0 a1 w) : Ret pg n_sync_atomic_Uint32_Store #[a0, a1] Q w :=
  fn_sound (args := [a0, a1]) follows_pg Try.func76 (by kernel_rfl) (by kernel_rfl) (by kernel_rfl) ((fun (E : Env) (w : World) (H : sync_atomic_Uint32_Store Q (E 0) (E 1) w) => cast_of (by kernel_rfl) H : ∀ (E : Env) (w : World), sync_atomic_Uint32_Store Q (E 0) (E 1) w → swp pg Try.f76.ntmps (bodyOf Try.f76) (retW pg Try.f76.results Q) E w) (argE [a0, a1]) w H)

/-- F52 lodestar/credit.New(size) -/
def credit_New (Q : Cont) (a0 : Value) : World → Prop :=
  b_min #[3, 3] 3 #[a0, (.int .i64 8)] fun v1 => b_max #[3, 3] 3 #[(.int .i64 1), v1] fun v2 => cv 3 22 v2 fun v3 => bd 134 #[(0, v3)] fun v4 => bx 134 v4 fun v5 => (fun w0 => ncq v5 (fun v6 => faq 134 v6 1 (fun v7 => ncq v5 (fun v8 => faq 134 v8 0 (fun v9 => ldq 22 v9 (fun v10 => Ret pg n_sync_atomic_Uint32_Store #[v7, v10] (fun _ w1 => (Q v5) w1) (drw w0)) (drw w0)) (drw w0)) (drw w0)) (drw w0)) (drw w0))
theorem credit_New_ok {Q : Cont} {a0 : Value} {w : World} (H : credit_New Q a0 w) : Ret pg n_credit_New #[a0] Q w :=
  fn_sound (args := [a0]) follows_pg Try.func52 (by kernel_rfl) (by kernel_rfl) (by kernel_rfl) ((fun (E : Env) (w : World) (H : credit_New Q (E 0) w) => cast_of (by kernel_rfl) H : ∀ (E : Env) (w : World), credit_New Q (E 0) w → swp pg Try.f52.ntmps (bodyOf Try.f52) (retW pg Try.f52.results Q) E w) (argE [a0]) w H)

/-- F55 (*sync/atomic.Uint32).Load(x) -/
def sync_atomic_Uint32_Load (Q : Cont) (a0 : Value) : World → Prop :=
  nc a0 fun v1 => fa 132 v1 1 fun v2 => Ret pg n_sync_atomic_LoadUint32 #[v2] fun v3 => Q v3
theorem sync_atomic_Uint32_Load_ok {Q : Cont} {a0 : Value} {w : World} (H : sync_atomic_Uint32_Load Q a0 w) : Ret pg n_sync_atomic_Uint32_Load #[a0] Q w :=
  fn_sound (args := [a0]) follows_pg Try.func55 (by kernel_rfl) (by kernel_rfl) (by kernel_rfl) ((fun (E : Env) (w : World) (H : sync_atomic_Uint32_Load Q (E 0) w) => cast_of (by kernel_rfl) H : ∀ (E : Env) (w : World), sync_atomic_Uint32_Load Q (E 0) w → swp pg Try.f55.ntmps (bodyOf Try.f55) (retW pg Try.f55.results Q) E w) (argE [a0]) w H)

/-- F32 (*lodestar/credit.Window).Limit(w) -/
def credit_Window_Limit (Q : Cont) (a0 : Value) : World → Prop :=
  nc a0 fun v1 => fa 134 v1 1 fun v2 => Ret pg n_sync_atomic_Uint32_Load #[v2] fun v3 => Q v3
theorem credit_Window_Limit_ok {Q : Cont} {a0 : Value} {w : World} (H : credit_Window_Limit Q a0 w) : Ret pg n_credit_Window_Limit #[a0] Q w :=
  fn_sound (args := [a0]) follows_pg Try.func32 (by kernel_rfl) (by kernel_rfl) (by kernel_rfl) ((fun (E : Env) (w : World) (H : credit_Window_Limit Q (E 0) w) => cast_of (by kernel_rfl) H : ∀ (E : Env) (w : World), credit_Window_Limit Q (E 0) w → swp pg Try.f32.ntmps (bodyOf Try.f32) (retW pg Try.f32.results Q) E w) (argE [a0]) w H)

/-- F27 (*lodestar/session.Hub).hello(h, c, now, x) -/
def session_Hub_hello (Q : Cont) (a0 a1 a2 a3 : Value) : World → Prop :=
  bx 37 a3 fun v1 => al 45 fun v2 => (fun w0 => ncq a0 (fun v3 => faq 84 v3 0 (fun v4 => ldq 22 v4 (fun v5 => faq 37 v1 2 (fun v6 => ldq 22 v6 (fun v7 => boq .and 22 v5 v7 (fun v8 => boq .eql 22 v8 (.int .u32 0) (fun v9 => (iteW v9 (Ret pg n_session_Hub_shut #[a0, a1, a2, (.int .u8 5), (.int .i64 181)] fun v10 => st 45 v2 v10 fun _ => (fun w => ldq 45 v2 (fun v11 => Q v11 w) w)) (nc a0 fun v12 => fa 84 v12 4 fun v13 => ld 82 v13 fun v14 => b_len #[82] 3 #[v14] fun v15 => bo .geq 3 v15 (.int .i64 8) fun v16 => iteW v16 (Ret pg n_session_Hub_shut #[a0, a1, a2, (.int .u8 5), (.int .i64 4)] fun v17 => st 45 v2 v17 fun _ => (fun w => ldq 45 v2 (fun v18 => Q v18 w) w)) (nc a0 fun v19 => fa 84 v19 5 fun v20 => ld 23 v20 fun v21 => bo .add 23 v21 (.int .u64 1) fun v22 => nc a0 fun v23 => fa 84 v23 5 fun v24 => st 23 v24 v22 fun _ => (fun w0 => ncq a0 (fun v25 => faq 84 v25 5 (fun v26 => ldq 23 v26 (fun v27 => ncq a0 (fun v28 => faq 84 v28 0 (fun v29 => ldq 22 v29 (fun v30 => faq 37 v1 2 (fun v31 => ldq 22 v31 (fun v32 => boq .and 22 v30 v32 (fun v33 => ncq a0 (fun v34 => faq 84 v34 1 (fun v35 => ldq 3 v35 (fun v36 => Ret pg n_dedup_New #[] (fun v37 w1 => (faq 84 v25 5 (fun v => v = v26) w1) ∧ (ldq 23 v26 (fun v => v = v27) w1) ∧ (faq 84 v28 0 (fun v => v = v29) w1) ∧ (ldq 22 v29 (fun v => v = v30) w1) ∧ (faq 37 v1 2 (fun v => v = v31) w1) ∧ (ldq 22 v31 (fun v => v = v32) w1) ∧ (boq .and 22 v30 v32 (fun v => v = v33) w1) ∧ (faq 84 v34 1 (fun v => v = v35) w1) ∧ (ldq 3 v35 (fun v => v = v36) w1) ∧ Ret pg n_credit_New #[v36] (fun v38 w2 => (faq 84 v25 5 (fun v => v = v26) w2) ∧ (ldq 23 v26 (fun v => v = v27) w2) ∧ (faq 84 v28 0 (fun v => v = v29) w2) ∧ (ldq 22 v29 (fun v => v = v30) w2) ∧ (faq 37 v1 2 (fun v => v = v31) w2) ∧ (ldq 22 v31 (fun v => v = v32) w2) ∧ (boq .and 22 v30 v32 (fun v => v = v33) w2) ∧ bdq 94 #[(0, v27), (1, v33), (2, v37), (3, v38), (4, a1)] (fun v39 => bx 94 v39 (fun v40 w3 => ((fun w0 => ncq a0 (fun v41 => faq 84 v41 4 (fun v42 => ldq 82 v42 (fun v43 => ncq a0 (fun v44 => faq 84 v44 5 (fun v45 => ldq 23 v45 (fun v46 => ncq a1 (fun v47 => faq 88 v47 1 (fun v48 => st 86 v48 v40 (fun _ w1 => me 82 v43 v46 (fun v49 w2 => exq v49 1 (fun v50 => es 82 v43 v50 v40 (fun _ w3 => ((fun w0 => ncq v40 (fun v51 => faq 94 v51 1 (fun v52 => ldq 22 v52 (fun v53 => ncq v40 (fun v54 => faq 94 v54 0 (fun v55 => ldq 23 v55 (fun v56 => ncq v40 (fun v57 => faq 94 v57 3 (fun v58 => ldq 92 v58 (fun v59 => Ret pg n_credit_Window_Limit #[v59] (fun v60 w1 => (faq 94 v51 1 (fun v => v = v52) w1) ∧ (ldq 22 v52 (fun v => v = v53) w1) ∧ (faq 94 v54 0 (fun v => v = v55) w1) ∧ (ldq 23 v55 (fun v => v = v56) w1) ∧ bdq 37 #[(0, (.int .u8 2)), (2, v53), (3, v56), (5, v60)] (fun v61 => bs 42 1 #[(0, v61)] (fun v62 w2 => bdq 45 #[(0, v62)] (fun v63 => st 45 v2 v63 (fun _ w3 => ((fun w => ldq 45 v2 (fun v64 => Q v64 w) w)) w3) w2) w2) w1) w1) (drw w0)) (drw w0)) (drw w0)) (drw w0)) (drw w0)) (drw w0)) (drw w0)) (drw w0)) (drw w0)) (drw w0))) w3) w2) w2) w1) (drw w0)) (drw w0)) (drw w0)) (drw w0)) (drw w0)) (drw w0)) (drw w0)) (drw w0)) (drw w0))) w3) w2) w2) w1) (drw w0)) (drw w0)) (drw w0)) (drw w0)) (drw w0)) (drw w0)) (drw w0)) (drw w0)) (drw w0)) (drw w0)) (drw w0)) (drw w0)) (drw w0))))) (drw w0)) (drw w0)) (drw w0)) (drw w0)) (drw w0)) (drw w0)) (drw w0)) (drw w0))
theorem session_Hub_hello_ok {Q : Cont} {a0 a1 a2 a3 : Value} {w : World} (H : session_Hub_hello Q a0 a1 a2 a3 w) : Ret pg n_session_Hub_hello #[a0, a1, a2, a3] Q w :=
  fn_sound (args := [a0, a1, a2, a3]) follows_pg Try.func27 (by kernel_rfl) (by kernel_rfl) (by kernel_rfl) ((fun (E : Env) (w : World) (H : session_Hub_hello Q (E 0) (E 1) (E 2) (E 3) w) => cast_of (by kernel_rfl) H : ∀ (E : Env) (w : World), session_Hub_hello Q (E 0) (E 1) (E 2) (E 3) w → swp pg Try.f27.ntmps (bodyOf Try.f27) (retW pg Try.f27.results Q) E w) (argE [a0, a1, a2, a3]) w H)

def dedup_Table_Ack_j2 (Q : Cont) : World → Prop :=
  Q (.int .i64 0)
def dedup_Table_Ack_l0b (Q : Cont) (nx0 : Value → Value → World → Prop) (t0_t t1_n : Value) : World → Prop :=
  nc t0_t fun v1 => fa 128 v1 1 fun v2 => ld 22 v2 fun v3 => bo .lss 22 v3 t1_n fun v4 => iteW v4 ((fun w0 => ncq t0_t (fun v5 => faq 128 v5 2 (fun v6 => ldq 126 v6 (fun v7 => ncq t0_t (fun v8 => faq 128 v8 1 (fun v9 => ldq 22 v9 (fun v10 => boq .add 22 v10 (.int .u32 1) (fun v11 => b_delete #[126, 22] 0 #[v7, v11] (fun _ w1 => (nc t0_t fun v12 => fa 128 v12 1 fun v13 => ld 22 v13 fun v14 => bo .add 22 v14 (.int .u32 1) fun v15 => nc t0_t fun v16 => fa 128 v16 1 fun v17 => st 22 v17 v15 fun _ => nx0 t0_t t1_n) w1) (drw w0)) (drw w0)) (drw w0)) (drw w0)) (drw w0)) (drw w0)) (drw w0)) (drw w0))) (dedup_Table_Ack_j2 Q)
def dedup_Table_Ack_l0 (Q : Cont) (t0_t t1_n : Value) : World → Prop :=
  LoopW (fun (nx : Value × Value → World → Prop) (s : Value × Value) => dedup_Table_Ack_l0b Q (fun x0 x1 => nx (x0, x1)) s.1 s.2) (t0_t, t1_n)
def dedup_Table_Ack_j1 (Q : Cont) (t0_t t1_n : Value) : World → Prop :=
  dedup_Table_Ack_l0 Q t0_t t1_n
def dedup_Table_Ack_j0 (Q : Cont) (t0_t t1_n : Value) : World → Prop :=
  nc t0_t fun v18 => fa 128 v18 0 fun v19 => ld 22 v19 fun v20 => bo .gtr 22 t1_n v20 fun v21 => iteW v21 (Q (.int .i64 1)) (dedup_Table_Ack_j1 Q t0_t t1_n)
/-- F30 (*lodestar/dedup.Table).Ack(t, n) -/
def dedup_Table_Ack (Q : Cont) (a0 a1 : Value) : World → Prop :=
  dedup_Table_Ack_j0 Q a0 a1
theorem dedup_Table_Ack_ok {Q : Cont} {a0 a1 : Value} {w : World} (H : dedup_Table_Ack Q a0 a1 w) : Ret pg n_dedup_Table_Ack #[a0, a1] Q w :=
  fn_sound (args := [a0, a1]) follows_pg Try.func30 (by kernel_rfl) (by kernel_rfl) (by kernel_rfl) ((fun (E : Env) (w : World) (H : dedup_Table_Ack Q (E 0) (E 1) w) => swp_join (fun (E : Env) (w : World) => dedup_Table_Ack_j0 Q (E 0) (E 1) w) (fun E w H => swp_join (fun (E : Env) (w : World) => dedup_Table_Ack_j1 Q (E 0) (E 1) w) (fun E w H => swp_join (fun (E : Env) (w : World) => dedup_Table_Ack_j2 Q w) (fun E w H => cast_of (by kernel_rfl) H) (swp_block (swp_loop (fun (E : Env) => (E 0, E 1)) _ (fun nx0 E w H => cast_of (by kernel_rfl) H) H))) (cast_of (by kernel_rfl) H)) (cast_of (by kernel_rfl) H) : ∀ (E : Env) (w : World), dedup_Table_Ack Q (E 0) (E 1) w → swp pg Try.f30.ntmps (bodyOf Try.f30) (retW pg Try.f30.results Q) E w) (argE [a0, a1]) w H)

/-- F77 (*sync/atomic.Uint32).CompareAndSwap(x, old, new) -/
def sync_atomic_Uint32_CompareAndSwap (Q : Cont) (a0 a1 a2 : Value) : World → Prop :=
  nc a0 fun v1 => fa 132 v1 1 fun v2 => Ret pg n_sync_atomic_CompareAndSwapUint32 #[v2, a1, a2] fun v3 => Q v3
theorem sync_atomic_Uint32_CompareAndSwap_ok {Q : Cont} {a0 a1 a2 : Value} {w : World} (H : sync_atomic_Uint32_CompareAndSwap Q a0 a1 a2 w) : Ret pg n_sync_atomic_Uint32_CompareAndSwap #[a0, a1, a2] Q w :=
  fn_sound (args := [a0, a1, a2]) follows_pg Try.func77 (by kernel_rfl) (by kernel_rfl) (by kernel_rfl) ((fun (E : Env) (w : World) (H : sync_atomic_Uint32_CompareAndSwap Q (E 0) (E 1) (E 2) w) => cast_of (by kernel_rfl) H : ∀ (E : Env) (w : World), sync_atomic_Uint32_CompareAndSwap Q (E 0) (E 1) (E 2) w → swp pg Try.f77.ntmps (bodyOf Try.f77) (retW pg Try.f77.results Q) E w) (argE [a0, a1, a2]) w H)

/-- F54 (*lodestar/credit.Window).Raise(w, limit) -/
def credit_Window_Raise (Q : Cont) (a0 a1 : Value) : World → Prop :=
  b_min #[22, 22] 22 #[a1, (.int .u32 1073741824)] fun v1 => nc a0 fun v2 => fa 134 v2 1 fun v3 => Ret pg n_sync_atomic_Uint32_Load #[v3] fun v4 => bo .leq 22 v1 v4 fun v5 => iteW v5 (Q (.bool false)) (nc a0 fun v6 => fa 134 v6 1 fun v7 => Ret pg n_sync_atomic_Uint32_CompareAndSwap #[v7, v4, v1] fun v8 => Q v8)
theorem credit_Window_Raise_ok {Q : Cont} {a0 a1 : Value} {w : World} (H : credit_Window_Raise Q a0 a1 w) : Ret pg n_credit_Window_Raise #[a0, a1] Q w :=
  fn_sound (args := [a0, a1]) follows_pg Try.func54 (by kernel_rfl) (by kernel_rfl) (by kernel_rfl) ((fun (E : Env) (w : World) (H : credit_Window_Raise Q (E 0) (E 1) w) => cast_of (by kernel_rfl) H : ∀ (E : Env) (w : World), credit_Window_Raise Q (E 0) (E 1) w → swp pg Try.f54.ntmps (bodyOf Try.f54) (retW pg Try.f54.results Q) E w) (argE [a0, a1]) w H)

/-- F31 (*lodestar/credit.Window).Had(w, n) -/
def credit_Window_Had (Q : Cont) (a0 a1 : Value) : World → Prop :=
  (fun w0 => ncq a0 (fun v1 => faq 134 v1 0 (fun v2 => ldq 22 v2 (fun v3 => boq .sub 22 (.int .u32 1073741824) v3 (fun v4 => b_minq #[22, 22] 22 #[a1, v4] (fun v5 => ncq a0 (fun v6 => faq 134 v6 0 (fun v7 => ldq 22 v7 (fun v8 => boq .add 22 v5 v8 (fun v9 => Ret pg n_credit_Window_Raise #[a0, v9] (fun v10 w1 => (Q v10) w1) (drw w0)) (drw w0)) (drw w0)) (drw w0)) (drw w0)) (drw w0)) (drw w0)) (drw w0)) (drw w0)) (drw w0))
theorem credit_Window_Had_ok {Q : Cont} {a0 a1 : Value} {w : World} (H : credit_Window_Had Q a0 a1 w) : Ret pg n_credit_Window_Had #[a0, a1] Q w :=
  fn_sound (args := [a0, a1]) follows_pg Try.func31 (by kernel_rfl) (by kernel_rfl) (by kernel_rfl) ((fun (E : Env) (w : World) (H : credit_Window_Had Q (E 0) (E 1) w) => cast_of (by kernel_rfl) H : ∀ (E : Env) (w : World), credit_Window_Had Q (E 0) (E 1) w → swp pg Try.f31.ntmps (bodyOf Try.f31) (retW pg Try.f31.results Q) E w) (argE [a0, a1]) w H)

/-- F53 (*lodestar/dedup.Table).Done(t) -/
def dedup_Table_Done (Q : Cont) (a0 : Value) : World → Prop :=
  nc a0 fun v1 => fa 128 v1 0 fun v2 => ld 22 v2 fun v3 => Q v3
theorem dedup_Table_Done_ok {Q : Cont} {a0 : Value} {w : World} (H : dedup_Table_Done Q a0 w) : Ret pg n_dedup_Table_Done #[a0] Q w :=
  fn_sound (args := [a0]) follows_pg Try.func53 (by kernel_rfl) (by kernel_rfl) (by kernel_rfl) ((fun (E : Env) (w : World) (H : dedup_Table_Done Q (E 0) w) => cast_of (by kernel_rfl) H : ∀ (E : Env) (w : World), dedup_Table_Done Q (E 0) w → swp pg Try.f53.ntmps (bodyOf Try.f53) (retW pg Try.f53.results Q) E w) (argE [a0]) w H)

def session_Hub_resume_j5 (Q : Cont) (t1_c t7_x t8 t9_s t10_t : Value) : World → Prop :=
  nc t9_s fun v1 => fa 94 v1 4 fun v2 => st 85 v2 t1_c fun _ => nc t1_c fun v3 => fa 88 v3 1 fun v4 => st 86 v4 t9_s fun _ => (fun w0 => ncq t9_s (fun v5 => faq 94 v5 3 (fun v6 => ldq 92 v6 (fun v7 => faq 37 t7_x 5 (fun v8 => ldq 22 v8 (fun v9 => Ret pg n_credit_Window_Had #[v7, v9] (fun _ w1 => ((fun w0 => ncq t9_s (fun v11 => faq 94 v11 2 (fun v12 => ldq 91 v12 (fun v13 => ncq t9_s (fun v14 => faq 94 v14 3 (fun v15 => ldq 92 v15 (fun v16 => Ret pg n_dedup_Table_Done #[v13] (fun v17 w1 => (faq 94 v14 3 (fun v => v = v15) w1) ∧ (ldq 92 v15 (fun v => v = v16) w1) ∧ bdq 37 #[(0, (.int .u8 4)), (5, v17)] (fun v18 => Ret pg n_credit_Window_Limit #[v16] (fun v19 w2 => (bdq 37 #[(0, (.int .u8 4)), (5, v17)] (fun v => v = v18) w2) ∧ bdq 37 #[(0, (.int .u8 9)), (5, v19)] (fun v20 => bs 42 2 #[(0, v18), (1, v20)] (fun v21 w3 => faq 45 t10_t 0 (fun v22 => st 42 v22 v21 (fun _ w4 => (ld 45 t10_t fun v23 => st 45 t8 v23 fun _ => (fun w => ldq 45 t8 (fun v24 => Q v24 w) w)) w4) w3) w3) w2) w2) w1) w1) (drw w0)) (drw w0)) (drw w0)) (drw w0)) (drw w0)) (drw w0)) (drw w0))) w1) (drw w0)) (drw w0)) (drw w0)) (drw w0)) (drw w0)) (drw w0))
def session_Hub_resume_j4 (Q : Cont) (t0_h t1_c t2_now t7_x t8 t9_s t10_t : Value) : World → Prop :=
  nc t9_s fun v25 => fa 94 v25 4 fun v26 => ld 85 v26 fun v27 => bo .neq 85 v27 (.pointer none) fun v28 => iteW v28 (nc t9_s fun v29 => fa 94 v29 4 fun v30 => ld 85 v30 fun v31 => nc v31 fun v32 => fa 88 v32 0 fun v33 => ld 3 v33 fun v34 => bs 43 1 #[(0, v34)] fun v35 => fa 45 t10_t 1 fun v36 => st 43 v36 v35 fun _ => nc t9_s fun v37 => fa 94 v37 4 fun v38 => ld 85 v38 fun v39 => nc v39 fun v40 => fa 88 v40 0 fun v41 => ld 3 v41 fun v42 => Ret pg n_session_Hub_Close #[t0_h, v42, t2_now] fun _ => session_Hub_resume_j5 Q t1_c t7_x t8 t9_s t10_t) (session_Hub_resume_j5 Q t1_c t7_x t8 t9_s t10_t)
def session_Hub_resume_j3 (Q : Cont) (t0_h t1_c t2_now t7_x t8 t9_s : Value) : World → Prop :=
  al 45 fun v44 => session_Hub_resume_j4 Q t0_h t1_c t2_now t7_x t8 t9_s v44
def session_Hub_resume_j2 (Q : Cont) (t0_h t1_c t2_now t7_x t8 t9_s : Value) : World → Prop :=
  (fun w0 => ncq t9_s (fun v45 => faq 94 v45 2 (fun v46 => ldq 91 v46 (fun v47 => faq 37 t7_x 5 (fun v48 => ldq 22 v48 (fun v49 => Ret pg n_dedup_Table_Ack #[v47, v49] (fun v50 w1 => boq .neq 46 v50 (.int .i64 0) (fun v51 => (iteW v51 (Ret pg n_session_Hub_shut #[t0_h, t1_c, t2_now, (.int .u8 5), (.int .i64 180)] fun v52 => st 45 t8 v52 fun _ => (fun w => ldq 45 t8 (fun v53 => Q v53 w) w)) (session_Hub_resume_j3 Q t0_h t1_c t2_now t7_x t8 t9_s)) w1) w1) (drw w0)) (drw w0)) (drw w0)) (drw w0)) (drw w0)) (drw w0))
def session_Hub_resume_j1 (Q : Cont) (t0_h t1_c t2_now t7_x t8 t9_s : Value) : World → Prop :=
  bo .eql 86 t9_s (.pointer none) fun v54 => iteW v54 (Ret pg n_session_Hub_shut #[t0_h, t1_c, t2_now, (.int .u8 5), (.int .i64 182)] fun v55 => st 45 t8 v55 fun _ => (fun w => ldq 45 t8 (fun v56 => Q v56 w) w)) (session_Hub_resume_j2 Q t0_h t1_c t2_now t7_x t8 t9_s)
def session_Hub_resume_j0 (Q : Cont) (t0_h t1_c t2_now t7_x t8 : Value) : World → Prop :=
  (fun w0 => ncq t0_h (fun v57 => faq 84 v57 4 (fun v58 => ldq 82 v58 (fun v59 => faq 37 t7_x 3 (fun v60 => ldq 23 v60 (fun v61 => lkq 82 v59 v61 false (fun v62 => (session_Hub_resume_j1 Q t0_h t1_c t2_now t7_x t8 v62) (drw w0)) (drw w0)) (drw w0)) (drw w0)) (drw w0)) (drw w0)) (drw w0))
/-- F28 (*lodestar/session.Hub).resume(h, c, now, x) -/
def session_Hub_resume (Q : Cont) (a0 a1 a2 a3 : Value) : World → Prop :=
  bx 37 a3 fun v63 => al 45 fun v64 => session_Hub_resume_j0 Q a0 a1 a2 v63 v64
theorem session_Hub_resume_ok {Q : Cont} {a0 a1 a2 a3 : Value} {w : World} (H : session_Hub_resume Q a0 a1 a2 a3 w) : Ret pg n_session_Hub_resume #[a0, a1, a2, a3] Q w :=
  fn_sound (args := [a0, a1, a2, a3]) follows_pg Try.func28 (by kernel_rfl) (by kernel_rfl) (by kernel_rfl) ((fun (E : Env) (w : World) (H : session_Hub_resume Q (E 0) (E 1) (E 2) (E 3) w) => swp_join (fun (E : Env) (w : World) => session_Hub_resume_j0 Q (E 0) (E 1) (E 2) (E 7) (E 8) w) (fun E w H => swp_join (fun (E : Env) (w : World) => session_Hub_resume_j1 Q (E 0) (E 1) (E 2) (E 7) (E 8) (E 9) w) (fun E w H => swp_join (fun (E : Env) (w : World) => session_Hub_resume_j2 Q (E 0) (E 1) (E 2) (E 7) (E 8) (E 9) w) (fun E w H => swp_join (fun (E : Env) (w : World) => session_Hub_resume_j3 Q (E 0) (E 1) (E 2) (E 7) (E 8) (E 9) w) (fun E w H => swp_join (fun (E : Env) (w : World) => session_Hub_resume_j4 Q (E 0) (E 1) (E 2) (E 7) (E 8) (E 9) (E 10) w) (fun E w H => swp_join (fun (E : Env) (w : World) => session_Hub_resume_j5 Q (E 1) (E 7) (E 8) (E 9) (E 10) w) (fun E w H => cast_of (by kernel_rfl) H) (cast_of (by kernel_rfl) H)) (cast_of (by kernel_rfl) H)) (cast_of (by kernel_rfl) H)) (cast_of (by kernel_rfl) H)) (cast_of (by kernel_rfl) H)) (cast_of (by kernel_rfl) H) : ∀ (E : Env) (w : World), session_Hub_resume Q (E 0) (E 1) (E 2) (E 3) w → swp pg Try.f28.ntmps (bodyOf Try.f28) (retW pg Try.f28.results Q) E w) (argE [a0, a1, a2, a3]) w H)

/-- F56 (*lodestar/credit.Window).May(w, req) -/
def credit_Window_May (Q : Cont) (a0 a1 : Value) : World → Prop :=
  bo .gtr 22 a1 (.int .u32 0) fun v1 => iteW v1 (nc a0 fun v2 => fa 134 v2 1 fun v3 => Ret pg n_sync_atomic_Uint32_Load #[v3] fun v4 => bo .leq 22 a1 v4 fun v5 => Q v5) (Q (.bool false))
theorem credit_Window_May_ok {Q : Cont} {a0 a1 : Value} {w : World} (H : credit_Window_May Q a0 a1 w) : Ret pg n_credit_Window_May #[a0, a1] Q w :=
  fn_sound (args := [a0, a1]) follows_pg Try.func56 (by kernel_rfl) (by kernel_rfl) (by kernel_rfl) ((fun (E : Env) (w : World) (H : credit_Window_May Q (E 0) (E 1) w) => cast_of (by kernel_rfl) H : ∀ (E : Env) (w : World), credit_Window_May Q (E 0) (E 1) w → swp pg Try.f56.ntmps (bodyOf Try.f56) (retW pg Try.f56.results Q) E w) (argE [a0, a1]) w H)

/-- F57 (*lodestar/dedup.Table).Ask(t, req) -/
def dedup_Table_Ask (Q : Cont) (a0 a1 : Value) : World → Prop :=
  al 37 fun v1 => nc a0 fun v2 => fa 128 v2 1 fun v3 => ld 22 v3 fun v4 => bo .leq 22 a1 v4 fun v5 => iteW v5 (bd 37 #[] fun v6 => st 37 v1 v6 fun _ => (fun w => ldq 37 v1 (fun v7 => Q (.tuple #[v7, (.int .u8 3)]) w) w)) (nc a0 fun v8 => fa 128 v8 0 fun v9 => ld 22 v9 fun v10 => bo .leq 22 a1 v10 fun v11 => iteW v11 (nc a0 fun v12 => fa 128 v12 2 fun v13 => ld 126 v13 fun v14 => lk 126 v14 a1 false fun v15 => st 37 v1 v15 fun _ => (fun w => ldq 37 v1 (fun v16 => Q (.tuple #[v16, (.int .u8 2)]) w) w)) (bo .sub 22 a1 (.int .u32 1) fun v17 => nc a0 fun v18 => fa 128 v18 0 fun v19 => ld 22 v19 fun v20 => bo .eql 22 v17 v20 fun v21 => iteW v21 (bd 37 #[] fun v22 => st 37 v1 v22 fun _ => (fun w => ldq 37 v1 (fun v23 => Q (.tuple #[v23, (.int .u8 1)]) w) w)) (bd 37 #[] fun v24 => st 37 v1 v24 fun _ => (fun w => ldq 37 v1 (fun v25 => Q (.tuple #[v25, (.int .u8 4)]) w) w))))
theorem dedup_Table_Ask_ok {Q : Cont} {a0 a1 : Value} {w : World} (H : dedup_Table_Ask Q a0 a1 w) : Ret pg n_dedup_Table_Ask #[a0, a1] Q w :=
  fn_sound (args := [a0, a1]) follows_pg Try.func57 (by kernel_rfl) (by kernel_rfl) (by kernel_rfl) ((fun (E : Env) (w : World) (H : dedup_Table_Ask Q (E 0) (E 1) w) => cast_of (by kernel_rfl) H : ∀ (E : Env) (w : World), dedup_Table_Ask Q (E 0) (E 1) w → swp pg Try.f57.ntmps (bodyOf Try.f57) (retW pg Try.f57.results Q) E w) (argE [a0, a1]) w H)

def session_session_lacks_j1 (Q : Cont) : World → Prop :=
  Q (.bool false)
def session_session_lacks_j4 (Q : Cont) (t0_s t17 : Value) : World → Prop :=
  iteW t17 (nc t0_s fun v6 => fa 94 v6 1 fun v7 => ld 22 v7 fun v8 => bo .and 22 v8 (.int .u32 2) fun v9 => bo .eql 22 v9 (.int .u32 0) fun v10 => Q v10) (session_session_lacks_j1 Q)
def session_session_lacks_c0 (Q : Cont) (t0_s t5 : Value) : World → Prop :=
  bo .eql 5 t5 (.int .u8 17) fun v11 => iteW v11 (session_session_lacks_j4 Q t0_s v11) (bo .eql 5 t5 (.int .u8 18) fun v12 => iteW v12 (session_session_lacks_j4 Q t0_s v12) (bo .eql 5 t5 (.int .u8 19) fun v13 => session_session_lacks_j4 Q t0_s v13))
def session_session_lacks_j3 (Q : Cont) (t0_s t5 t6 : Value) : World → Prop :=
  iteW t6 (nc t0_s fun v1 => fa 94 v1 1 fun v2 => ld 22 v2 fun v3 => bo .and 22 v3 (.int .u32 1) fun v4 => bo .eql 22 v4 (.int .u32 0) fun v5 => Q v5) (session_session_lacks_c0 Q t0_s t5)
def session_session_lacks_j2 (Q : Cont) (t0_s t5 : Value) : World → Prop :=
  bo .eql 5 t5 (.int .u8 20) fun v14 => iteW v14 (session_session_lacks_j3 Q t0_s t5 v14) (bo .eql 5 t5 (.int .u8 21) fun v15 => iteW v15 (session_session_lacks_j3 Q t0_s t5 v15) (bo .eql 5 t5 (.int .u8 22) fun v16 => iteW v16 (session_session_lacks_j3 Q t0_s t5 v16) (bo .eql 5 t5 (.int .u8 23) fun v17 => session_session_lacks_j3 Q t0_s t5 v17)))
def session_session_lacks_j0 (Q : Cont) (t0_s t1_kind : Value) : World → Prop :=
  session_session_lacks_j2 Q t0_s t1_kind
/-- F58 (*lodestar/session.session).lacks(s, kind) -/
def session_session_lacks (Q : Cont) (a0 a1 : Value) : World → Prop :=
  session_session_lacks_j0 Q a0 a1
theorem session_session_lacks_ok {Q : Cont} {a0 a1 : Value} {w : World} (H : session_session_lacks Q a0 a1 w) : Ret pg n_session_session_lacks #[a0, a1] Q w :=
  fn_sound (args := [a0, a1]) follows_pg Try.func58 (by kernel_rfl) (by kernel_rfl) (by kernel_rfl) ((fun (E : Env) (w : World) (H : session_session_lacks Q (E 0) (E 1) w) => swp_join (fun (E : Env) (w : World) => session_session_lacks_j0 Q (E 0) (E 1) w) (fun E w H => swp_join (fun (E : Env) (w : World) => session_session_lacks_j1 Q w) (fun E w H => cast_of (by kernel_rfl) H) (swp_join (fun (E : Env) (w : World) => session_session_lacks_j2 Q (E 0) (E 5) w) (fun E w H => swp_block (swp_join (fun (E : Env) (w : World) => session_session_lacks_j3 Q (E 0) (E 5) (E 6) w) (fun E w H => swp_cond (by exact H) (fun H => cast_of (by kernel_rfl) H) (fun H => swp_join (fun (E : Env) (w : World) => session_session_lacks_j4 Q (E 0) (E 17) w) (fun E w H => cast_of (by kernel_rfl) H) (cast_of (by kernel_rfl) H))) (cast_of (by kernel_rfl) H))) (cast_of (by kernel_rfl) H))) (cast_of (by kernel_rfl) H) : ∀ (E : Env) (w : World), session_session_lacks Q (E 0) (E 1) w → swp pg Try.f58.ntmps (bodyOf Try.f58) (retW pg Try.f58.results Q) E w) (argE [a0, a1]) w H)

def dedup_Table_Keep_j1 (Q : Cont) (t0_t t1_req t5_a : Value) : World → Prop :=
  nc t0_t fun v1 => fa 128 v1 0 fun v2 => st 22 v2 t1_req fun _ => (fun w0 => ncq t0_t (fun v3 => faq 128 v3 2 (fun v4 => ldq 126 v4 (fun v5 => ldq 37 t5_a (fun v6 => mu 126 v5 t1_req v6 (fun _ w1 => (Q (.int .i64 0)) w1) (drw w0)) (drw w0)) (drw w0)) (drw w0)) (drw w0))
def dedup_Table_Keep_j2 (Q : Cont) (t0_t t1_req t5_a t7 : Value) : World → Prop :=
  iteW t7 (Q (.int .i64 1)) (nc t0_t fun v7 => fa 128 v7 0 fun v8 => ld 22 v8 fun v9 => bo .geq 22 v9 (.int .u32 1073741824) fun v10 => iteW v10 (Q (.int .i64 6)) (nc t0_t fun v11 => fa 128 v11 2 fun v12 => ld 126 v12 fun v13 => b_len #[126] 3 #[v13] fun v14 => bo .geq 3 v14 (.int .i64 16) fun v15 => iteW v15 (Q (.int .i64 4)) (dedup_Table_Keep_j1 Q t0_t t1_req t5_a)))
def dedup_Table_Keep_j0 (Q : Cont) (t0_t t1_req t5_a : Value) : World → Prop :=
  bo .eql 22 t1_req (.int .u32 0) fun v16 => iteW v16 (dedup_Table_Keep_j2 Q t0_t t1_req t5_a (.bool true)) (bo .sub 22 t1_req (.int .u32 1) fun v17 => nc t0_t fun v18 => fa 128 v18 0 fun v19 => ld 22 v19 fun v20 => bo .neq 22 v17 v20 fun v21 => dedup_Table_Keep_j2 Q t0_t t1_req t5_a v21)
/-- F41 (*lodestar/dedup.Table).Keep(t, req, a) -/
def dedup_Table_Keep (Q : Cont) (a0 a1 a2 : Value) : World → Prop :=
  bx 37 a2 fun v22 => dedup_Table_Keep_j0 Q a0 a1 v22
theorem dedup_Table_Keep_ok {Q : Cont} {a0 a1 a2 : Value} {w : World} (H : dedup_Table_Keep Q a0 a1 a2 w) : Ret pg n_dedup_Table_Keep #[a0, a1, a2] Q w :=
  fn_sound (args := [a0, a1, a2]) follows_pg Try.func41 (by kernel_rfl) (by kernel_rfl) (by kernel_rfl) ((fun (E : Env) (w : World) (H : dedup_Table_Keep Q (E 0) (E 1) (E 2) w) => swp_join (fun (E : Env) (w : World) => dedup_Table_Keep_j0 Q (E 0) (E 1) (E 5) w) (fun E w H => swp_join (fun (E : Env) (w : World) => dedup_Table_Keep_j1 Q (E 0) (E 1) (E 5) w) (fun E w H => cast_of (by kernel_rfl) H) (swp_block (swp_join (fun (E : Env) (w : World) => dedup_Table_Keep_j2 Q (E 0) (E 1) (E 5) (E 7) w) (fun E w H => cast_of (by kernel_rfl) H) (cast_of (by kernel_rfl) H)))) (cast_of (by kernel_rfl) H) : ∀ (E : Env) (w : World), dedup_Table_Keep Q (E 0) (E 1) (E 2) w → swp pg Try.f41.ntmps (bodyOf Try.f41) (retW pg Try.f41.results Q) E w) (argE [a0, a1, a2]) w H)

def session_Hub_request_j3 (Q : Cont) (t0_h t1_c t2_now t7_x t8 t9_s t10_a t11_v : Value) : World → Prop :=
  bo .eql 135 t11_v (.int .u8 2) fun v1 => iteW v1 (ld 37 t10_a fun v2 => bs 42 1 #[(0, v2)] fun v3 => bd 45 #[(0, v3)] fun v4 => st 45 t8 v4 fun _ => (fun w => ldq 45 t8 (fun v5 => Q v5 w) w)) (bo .eql 135 t11_v (.int .u8 3) fun v6 => iteW v6 (fa 37 t7_x 1 fun v7 => ld 22 v7 fun v8 => bd 37 #[(0, (.int .u8 24)), (1, v8), (4, (.int .u8 160))] fun v9 => bs 42 1 #[(0, v9)] fun v10 => bd 45 #[(0, v10)] fun v11 => st 45 t8 v11 fun _ => (fun w => ldq 45 t8 (fun v12 => Q v12 w) w)) (bo .eql 135 t11_v (.int .u8 4) fun v13 => iteW v13 (Ret pg n_session_Hub_shut #[t0_h, t1_c, t2_now, (.int .u8 6), (.int .i64 180)] fun v14 => st 45 t8 v14 fun _ => (fun w => ldq 45 t8 (fun v15 => Q v15 w) w)) (fa 37 t7_x 0 fun v16 => ld 5 v16 fun v17 => Ret pg n_session_session_lacks #[t9_s, v17] fun v18 => iteW v18 (fa 37 t7_x 1 fun v19 => ld 22 v19 fun v20 => bd 37 #[(0, (.int .u8 24)), (1, v20), (4, (.int .u8 181))] fun v21 => st 37 t10_a v21 fun _ => (fun w0 => ncq t9_s (fun v22 => faq 94 v22 2 (fun v23 => ldq 91 v23 (fun v24 => faq 37 t7_x 1 (fun v25 => ldq 22 v25 (fun v26 => ldq 37 t10_a (fun v27 => Ret pg n_dedup_Table_Keep #[v24, v26, v27] (fun _ w1 => (ld 37 t10_a fun v29 => bs 42 1 #[(0, v29)] fun v30 => bd 45 #[(0, v30)] fun v31 => st 45 t8 v31 fun _ => (fun w => ldq 45 t8 (fun v32 => Q v32 w) w)) w1) (drw w0)) (drw w0)) (drw w0)) (drw w0)) (drw w0)) (drw w0)) (drw w0))) (nc t9_s fun v33 => fa 94 v33 0 fun v34 => ld 23 v34 fun v35 => bd 45 #[(2, (.bool true)), (3, v35)] fun v36 => st 45 t8 v36 fun _ => (fun w => ldq 45 t8 (fun v37 => Q v37 w) w)))))
def session_Hub_request_j2 (Q : Cont) (t0_h t1_c t2_now t7_x t8 t9_s : Value) : World → Prop :=
  (fun w0 => ncq t9_s (fun v38 => faq 94 v38 2 (fun v39 => ldq 91 v39 (fun v40 => faq 37 t7_x 1 (fun v41 => ldq 22 v41 (fun v42 => (Ret pg n_dedup_Table_Ask #[v40, v42] (fun v43 w1 => exq v43 0 (fun v44 => exq v43 1 (fun v45 => al 37 (fun v46 w2 => st 37 v46 v44 (fun _ w3 => (session_Hub_request_j3 Q t0_h t1_c t2_now t7_x t8 t9_s v46 v45) w3) w2) w1) w1) w1) (drw w0)) ∧ (al 37 (fun v47 w4 => (faq 94 v38 2 (fun v => v = v39) w4) ∧ (ldq 91 v39 (fun v => v = v40) w4) ∧ (faq 37 t7_x 1 (fun v => v = v41) w4) ∧ (ldq 22 v41 (fun v => v = v42) w4) ∧ Ret pg n_dedup_Table_Ask #[v40, v42] (fun v48 w5 => exq v48 0 (fun v49 => exq v48 1 (fun v50 => st 37 v47 v49 (fun _ w6 => (session_Hub_request_j3 Q t0_h t1_c t2_now t7_x t8 t9_s v47 v50) w6) w5) w5) w5) w4) (drw w0))) (drw w0)) (drw w0)) (drw w0)) (drw w0)) (drw w0))
def session_Hub_request_j1 (Q : Cont) (t0_h t1_c t2_now t7_x t8 t9_s : Value) : World → Prop :=
  (fun w0 => ncq t9_s (fun v51 => faq 94 v51 3 (fun v52 => ldq 92 v52 (fun v53 => faq 37 t7_x 1 (fun v54 => ldq 22 v54 (fun v55 => Ret pg n_credit_Window_May #[v53, v55] (fun v56 w1 => uoq .not v56 (fun v57 => (iteW v57 (Ret pg n_session_Hub_shut #[t0_h, t1_c, t2_now, (.int .u8 6), (.int .i64 170)] fun v58 => st 45 t8 v58 fun _ => (fun w => ldq 45 t8 (fun v59 => Q v59 w) w)) (session_Hub_request_j2 Q t0_h t1_c t2_now t7_x t8 t9_s)) w1) w1) (drw w0)) (drw w0)) (drw w0)) (drw w0)) (drw w0)) (drw w0))
def session_Hub_request_j0 (Q : Cont) (t0_h t1_c t2_now t7_x t8 : Value) : World → Prop :=
  nc t1_c fun v60 => fa 88 v60 1 fun v61 => ld 86 v61 fun v62 => session_Hub_request_j1 Q t0_h t1_c t2_now t7_x t8 v62
/-- F33 (*lodestar/session.Hub).request(h, c, now, x) -/
def session_Hub_request (Q : Cont) (a0 a1 a2 a3 : Value) : World → Prop :=
  bx 37 a3 fun v63 => al 45 fun v64 => session_Hub_request_j0 Q a0 a1 a2 v63 v64
theorem session_Hub_request_ok {Q : Cont} {a0 a1 a2 a3 : Value} {w : World} (H : session_Hub_request Q a0 a1 a2 a3 w) : Ret pg n_session_Hub_request #[a0, a1, a2, a3] Q w :=
  fn_sound (args := [a0, a1, a2, a3]) follows_pg Try.func33 (by kernel_rfl) (by kernel_rfl) (by kernel_rfl) ((fun (E : Env) (w : World) (H : session_Hub_request Q (E 0) (E 1) (E 2) (E 3) w) => swp_join (fun (E : Env) (w : World) => session_Hub_request_j0 Q (E 0) (E 1) (E 2) (E 7) (E 8) w) (fun E w H => swp_join (fun (E : Env) (w : World) => session_Hub_request_j1 Q (E 0) (E 1) (E 2) (E 7) (E 8) (E 9) w) (fun E w H => swp_join (fun (E : Env) (w : World) => session_Hub_request_j2 Q (E 0) (E 1) (E 2) (E 7) (E 8) (E 9) w) (fun E w H => swp_join (fun (E : Env) (w : World) => session_Hub_request_j3 Q (E 0) (E 1) (E 2) (E 7) (E 8) (E 9) (E 10) (E 11) w) (fun E w H => cast_of (by kernel_rfl) H) (cast_of (by kernel_rfl) H)) (cast_of (by kernel_rfl) H)) (cast_of (by kernel_rfl) H)) (cast_of (by kernel_rfl) H) : ∀ (E : Env) (w : World), session_Hub_request Q (E 0) (E 1) (E 2) (E 3) w → swp pg Try.f33.ntmps (bodyOf Try.f33) (retW pg Try.f33.results Q) E w) (argE [a0, a1, a2, a3]) w H)

def session_Hub_In_j2 (Q : Cont) (t0_h t2_now t8 t10_c : Value) : World → Prop :=
  Ret pg n_session_Hub_shut #[t0_h, t10_c, t2_now, (.int .u8 6), (.int .i64 180)] fun v1 => st 45 t8 v1 fun _ => (fun w => ldq 45 t8 (fun v2 => Q (.tuple #[v2, (.int .i64 0)]) w) w)
def session_Hub_In_j11 (Q : Cont) (t0_h t2_now t7_x t8 t10_c t127 : Value) : World → Prop :=
  iteW t127 (ld 37 t7_x fun v47 => Ret pg n_session_Hub_request #[t0_h, t10_c, t2_now, v47] fun v48 => st 45 t8 v48 fun _ => (fun w => ldq 45 t8 (fun v49 => Q (.tuple #[v49, (.int .i64 0)]) w) w)) (session_Hub_In_j2 Q t0_h t2_now t8 t10_c)
def session_Hub_In_c7 (Q : Cont) (t0_h t2_now t7_x t8 t10_c : Value) : World → Prop :=
  fa 37 t7_x 0 fun v50 => ld 5 v50 fun v51 => bo .geq 5 v51 (.int .u8 11) fun v52 => iteW v52 (fa 37 t7_x 0 fun v53 => ld 5 v53 fun v54 => bo .leq 5 v54 (.int .u8 23) fun v55 => session_Hub_In_j11 Q t0_h t2_now t7_x t8 t10_c v55) (session_Hub_In_j11 Q t0_h t2_now t7_x t8 t10_c (.bool false))
def session_Hub_In_j10 (Q : Cont) (t0_h t2_now t7_x t8 t10_c t88 : Value) : World → Prop :=
  iteW t88 ((fun w0 => ncq t10_c (fun v25 => faq 88 v25 1 (fun v26 => ldq 86 v26 (fun v27 => ncq v27 (fun v28 => faq 94 v28 3 (fun v29 => ldq 92 v29 (fun v30 => faq 37 t7_x 5 (fun v31 => ldq 22 v31 (fun v32 => Ret pg n_credit_Window_Had #[v30, v32] (fun v33 w1 => (iteW v33 (nc t10_c fun v34 => fa 88 v34 1 fun v35 => ld 86 v35 fun v36 => nc v36 fun v37 => fa 94 v37 3 fun v38 => ld 92 v38 fun v39 => Ret pg n_credit_Window_Limit #[v39] fun v40 => bd 37 #[(0, (.int .u8 9)), (5, v40)] fun v41 => bs 42 1 #[(0, v41)] fun v42 => bd 45 #[(0, v42)] fun v43 => st 45 t8 v43 fun _ => (fun w => ldq 45 t8 (fun v44 => Q (.tuple #[v44, (.int .i64 0)]) w) w)) (bd 45 #[] fun v45 => st 45 t8 v45 fun _ => (fun w => ldq 45 t8 (fun v46 => Q (.tuple #[v46, (.int .i64 0)]) w) w))) w1) (drw w0)) (drw w0)) (drw w0)) (drw w0)) (drw w0)) (drw w0)) (drw w0)) (drw w0)) (drw w0))) (session_Hub_In_c7 Q t0_h t2_now t7_x t8 t10_c)
def session_Hub_In_c6 (Q : Cont) (t0_h t2_now t7_x t8 t10_c : Value) : World → Prop :=
  (fun w0 => faq 37 t7_x 0 (fun v56 => ldq 5 v56 (fun v57 => boq .eql 5 v57 (.int .u8 10) (fun v58 => condW v58 (ncq t10_c (fun v59 => faq 88 v59 1 (fun v60 => ldq 86 v60 (fun v61 => ncq v61 (fun v62 => faq 94 v62 2 (fun v63 => ldq 91 v63 (fun v64 => faq 37 t7_x 5 (fun v65 => ldq 22 v65 (fun v66 => Ret pg n_dedup_Table_Ack #[v64, v66] (fun v67 w1 => boq .eql 46 v67 (.int .i64 0) (fun v68 => (session_Hub_In_j10 Q t0_h t2_now t7_x t8 t10_c v68) w1) w1) (drw w0)) (drw w0)) (drw w0)) (drw w0)) (drw w0)) (drw w0)) (drw w0)) (drw w0)) (drw w0)) ((session_Hub_In_j10 Q t0_h t2_now t7_x t8 t10_c (.bool false)) (drw w0))) (drw w0)) (drw w0)) (drw w0))
def session_Hub_In_j9 (Q : Cont) (t0_h t2_now t7_x t8 t10_c t83 : Value) : World → Prop :=
  iteW t83 (bd 45 #[] fun v23 => st 45 t8 v23 fun _ => (fun w => ldq 45 t8 (fun v24 => Q (.tuple #[v24, (.int .i64 0)]) w) w)) (session_Hub_In_c6 Q t0_h t2_now t7_x t8 t10_c)
def session_Hub_In_c5 (Q : Cont) (t0_h t2_now t7_x t8 t10_c : Value) : World → Prop :=
  fa 37 t7_x 0 fun v69 => ld 5 v69 fun v70 => bo .eql 5 v70 (.int .u8 8) fun v71 => session_Hub_In_j9 Q t0_h t2_now t7_x t8 t10_c v71
def session_Hub_In_j8 (Q : Cont) (t0_h t2_now t7_x t8 t10_c t74 : Value) : World → Prop :=
  iteW t74 (fa 37 t7_x 5 fun v17 => ld 22 v17 fun v18 => bd 37 #[(0, (.int .u8 8)), (5, v18)] fun v19 => bs 42 1 #[(0, v19)] fun v20 => bd 45 #[(0, v20)] fun v21 => st 45 t8 v21 fun _ => (fun w => ldq 45 t8 (fun v22 => Q (.tuple #[v22, (.int .i64 0)]) w) w)) (session_Hub_In_c5 Q t0_h t2_now t7_x t8 t10_c)
def session_Hub_In_c4 (Q : Cont) (t0_h t2_now t7_x t8 t10_c : Value) : World → Prop :=
  fa 37 t7_x 0 fun v72 => ld 5 v72 fun v73 => bo .eql 5 v73 (.int .u8 7) fun v74 => session_Hub_In_j8 Q t0_h t2_now t7_x t8 t10_c v74
def session_Hub_In_j7 (Q : Cont) (t0_h t2_now t7_x t8 t10_c t64 : Value) : World → Prop :=
  iteW t64 (Ret pg n_session_Hub_shut #[t0_h, t10_c, t2_now, (.int .u8 6), (.int .i64 180)] fun v15 => st 45 t8 v15 fun _ => (fun w => ldq 45 t8 (fun v16 => Q (.tuple #[v16, (.int .i64 0)]) w) w)) (session_Hub_In_c4 Q t0_h t2_now t7_x t8 t10_c)
def session_Hub_In_c3 (Q : Cont) (t0_h t2_now t7_x t8 t10_c : Value) : World → Prop :=
  nc t10_c fun v75 => fa 88 v75 1 fun v76 => ld 86 v76 fun v77 => bo .eql 86 v77 (.pointer none) fun v78 => session_Hub_In_j7 Q t0_h t2_now t7_x t8 t10_c v78
def session_Hub_In_j6 (Q : Cont) (t0_h t2_now t7_x t8 t10_c t48 : Value) : World → Prop :=
  iteW t48 (ld 37 t7_x fun v12 => Ret pg n_session_Hub_resume #[t0_h, t10_c, t2_now, v12] fun v13 => st 45 t8 v13 fun _ => (fun w => ldq 45 t8 (fun v14 => Q (.tuple #[v14, (.int .i64 0)]) w) w)) (session_Hub_In_c3 Q t0_h t2_now t7_x t8 t10_c)
def session_Hub_In_c2 (Q : Cont) (t0_h t2_now t7_x t8 t10_c : Value) : World → Prop :=
  nc t10_c fun v79 => fa 88 v79 1 fun v80 => ld 86 v80 fun v81 => bo .eql 86 v81 (.pointer none) fun v82 => iteW v82 (fa 37 t7_x 0 fun v83 => ld 5 v83 fun v84 => bo .eql 5 v84 (.int .u8 3) fun v85 => session_Hub_In_j6 Q t0_h t2_now t7_x t8 t10_c v85) (session_Hub_In_j6 Q t0_h t2_now t7_x t8 t10_c (.bool false))
def session_Hub_In_j5 (Q : Cont) (t0_h t2_now t7_x t8 t10_c t32 : Value) : World → Prop :=
  iteW t32 (ld 37 t7_x fun v9 => Ret pg n_session_Hub_hello #[t0_h, t10_c, t2_now, v9] fun v10 => st 45 t8 v10 fun _ => (fun w => ldq 45 t8 (fun v11 => Q (.tuple #[v11, (.int .i64 0)]) w) w)) (session_Hub_In_c2 Q t0_h t2_now t7_x t8 t10_c)
def session_Hub_In_c1 (Q : Cont) (t0_h t2_now t7_x t8 t10_c : Value) : World → Prop :=
  nc t10_c fun v86 => fa 88 v86 1 fun v87 => ld 86 v87 fun v88 => bo .eql 86 v88 (.pointer none) fun v89 => iteW v89 (fa 37 t7_x 0 fun v90 => ld 5 v90 fun v91 => bo .eql 5 v91 (.int .u8 1) fun v92 => session_Hub_In_j5 Q t0_h t2_now t7_x t8 t10_c v92) (session_Hub_In_j5 Q t0_h t2_now t7_x t8 t10_c (.bool false))
def session_Hub_In_j4 (Q : Cont) (t0_h t1_n t2_now t7_x t8 t10_c t21 : Value) : World → Prop :=
  iteW t21 (Ret pg n_session_Hub_Close #[t0_h, t1_n, t2_now] fun _ => bs 43 1 #[(0, t1_n)] fun v6 => bd 45 #[(1, v6)] fun v7 => st 45 t8 v7 fun _ => (fun w => ldq 45 t8 (fun v8 => Q (.tuple #[v8, (.int .i64 0)]) w) w)) (session_Hub_In_c1 Q t0_h t2_now t7_x t8 t10_c)
def session_Hub_In_c0 (Q : Cont) (t0_h t1_n t2_now t7_x t8 t10_c : Value) : World → Prop :=
  fa 37 t7_x 0 fun v93 => ld 5 v93 fun v94 => bo .eql 5 v94 (.int .u8 6) fun v95 => session_Hub_In_j4 Q t0_h t1_n t2_now t7_x t8 t10_c v95
def session_Hub_In_j3 (Q : Cont) (t0_h t1_n t2_now t7_x t8 t10_c t17 : Value) : World → Prop :=
  iteW t17 (bd 45 #[] fun v3 => st 45 t8 v3 fun _ => (fun w => ldq 45 t8 (fun v4 => Q (.tuple #[v4, (.int .i64 2)]) w) w)) (session_Hub_In_c0 Q t0_h t1_n t2_now t7_x t8 t10_c)
def session_Hub_In_j1 (Q : Cont) (t0_h t1_n t2_now t7_x t8 t10_c : Value) : World → Prop :=
  bo .eql 85 t10_c (.pointer none) fun v96 => session_Hub_In_j3 Q t0_h t1_n t2_now t7_x t8 t10_c v96
def session_Hub_In_j0 (Q : Cont) (t0_h t1_n t2_now t7_x t8 : Value) : World → Prop :=
  nc t0_h fun v97 => fa 84 v97 3 fun v98 => ld 81 v98 fun v99 => lk 81 v99 t1_n false fun v100 => session_Hub_In_j1 Q t0_h t1_n t2_now t7_x t8 v100
/-- F11 (*lodestar/session.Hub).In(h, n, now, x) -/
def session_Hub_In (Q : Cont) (a0 a1 a2 a3 : Value) : World → Prop :=
  bx 37 a3 fun v101 => al 45 fun v102 => session_Hub_In_j0 Q a0 a1 a2 v101 v102
theorem session_Hub_In_ok {Q : Cont} {a0 a1 a2 a3 : Value} {w : World} (H : session_Hub_In Q a0 a1 a2 a3 w) : Ret pg n_session_Hub_In #[a0, a1, a2, a3] Q w :=
  fn_sound (args := [a0, a1, a2, a3]) follows_pg Try.func11 (by kernel_rfl) (by kernel_rfl) (by kernel_rfl) ((fun (E : Env) (w : World) (H : session_Hub_In Q (E 0) (E 1) (E 2) (E 3) w) => swp_join (fun (E : Env) (w : World) => session_Hub_In_j0 Q (E 0) (E 1) (E 2) (E 7) (E 8) w) (fun E w H => swp_join (fun (E : Env) (w : World) => session_Hub_In_j1 Q (E 0) (E 1) (E 2) (E 7) (E 8) (E 10) w) (fun E w H => swp_join (fun (E : Env) (w : World) => session_Hub_In_j2 Q (E 0) (E 2) (E 8) (E 10) w) (fun E w H => cast_of (by kernel_rfl) H) (swp_block (swp_join (fun (E : Env) (w : World) => session_Hub_In_j3 Q (E 0) (E 1) (E 2) (E 7) (E 8) (E 10) (E 17) w) (fun E w H => swp_cond (by exact H) (fun H => cast_of (by kernel_rfl) H) (fun H => swp_join (fun (E : Env) (w : World) => session_Hub_In_j4 Q (E 0) (E 1) (E 2) (E 7) (E 8) (E 10) (E 21) w) (fun E w H => swp_cond (by exact H) (fun H => cast_of (by kernel_rfl) H) (fun H => swp_join (fun (E : Env) (w : World) => session_Hub_In_j5 Q (E 0) (E 2) (E 7) (E 8) (E 10) (E 32) w) (fun E w H => swp_cond (by exact H) (fun H => cast_of (by kernel_rfl) H) (fun H => swp_join (fun (E : Env) (w : World) => session_Hub_In_j6 Q (E 0) (E 2) (E 7) (E 8) (E 10) (E 48) w) (fun E w H => swp_cond (by exact H) (fun H => cast_of (by kernel_rfl) H) (fun H => swp_join (fun (E : Env) (w : World) => session_Hub_In_j7 Q (E 0) (E 2) (E 7) (E 8) (E 10) (E 64) w) (fun E w H => swp_cond (by exact H) (fun H => cast_of (by kernel_rfl) H) (fun H => swp_join (fun (E : Env) (w : World) => session_Hub_In_j8 Q (E 0) (E 2) (E 7) (E 8) (E 10) (E 74) w) (fun E w H => swp_cond (by exact H) (fun H => cast_of (by kernel_rfl) H) (fun H => swp_join (fun (E : Env) (w : World) => session_Hub_In_j9 Q (E 0) (E 2) (E 7) (E 8) (E 10) (E 83) w) (fun E w H => swp_cond (by exact H) (fun H => cast_of (by kernel_rfl) H) (fun H => swp_join (fun (E : Env) (w : World) => session_Hub_In_j10 Q (E 0) (E 2) (E 7) (E 8) (E 10) (E 88) w) (fun E w H => swp_cond (by exact H) (fun H => cast_of (by kernel_rfl) H) (fun H => swp_join (fun (E : Env) (w : World) => session_Hub_In_j11 Q (E 0) (E 2) (E 7) (E 8) (E 10) (E 127) w) (fun E w H => cast_of (by kernel_rfl) H) (cast_of (by kernel_rfl) H))) (cast_of (by kernel_rfl) H))) (cast_of (by kernel_rfl) H))) (cast_of (by kernel_rfl) H))) (cast_of (by kernel_rfl) H))) (cast_of (by kernel_rfl) H))) (cast_of (by kernel_rfl) H))) (cast_of (by kernel_rfl) H))) (cast_of (by kernel_rfl) H)))) (cast_of (by kernel_rfl) H)) (cast_of (by kernel_rfl) H) : ∀ (E : Env) (w : World), session_Hub_In Q (E 0) (E 1) (E 2) (E 3) w → swp pg Try.f11.ntmps (bodyOf Try.f11) (retW pg Try.f11.results Q) E w) (argE [a0, a1, a2, a3]) w H)

/-- F19 (*lodestar/session.Hub).Told(h, token, a) -/
def session_Hub_Told (Q : Cont) (a0 a1 a2 : Value) : World → Prop :=
  bx 37 a2 fun v1 => nc a0 fun v2 => fa 84 v2 4 fun v3 => ld 82 v3 fun v4 => lk 82 v4 a1 false fun v5 => bo .eql 86 v5 (.pointer none) fun v6 => iteW v6 (Q (.int .i64 182)) ((fun w0 => ncq v5 (fun v7 => faq 94 v7 2 (fun v8 => ldq 91 v8 (fun v9 => faq 37 v1 1 (fun v10 => ldq 22 v10 (fun v11 => ldq 37 v1 (fun v12 => Ret pg n_dedup_Table_Keep #[v9, v11, v12] (fun v13 w1 => (Q v13) w1) (drw w0)) (drw w0)) (drw w0)) (drw w0)) (drw w0)) (drw w0)) (drw w0)))
theorem session_Hub_Told_ok {Q : Cont} {a0 a1 a2 : Value} {w : World} (H : session_Hub_Told Q a0 a1 a2 w) : Ret pg n_session_Hub_Told #[a0, a1, a2] Q w :=
  fn_sound (args := [a0, a1, a2]) follows_pg Try.func19 (by kernel_rfl) (by kernel_rfl) (by kernel_rfl) ((fun (E : Env) (w : World) (H : session_Hub_Told Q (E 0) (E 1) (E 2) w) => cast_of (by kernel_rfl) H : ∀ (E : Env) (w : World), session_Hub_Told Q (E 0) (E 1) (E 2) w → swp pg Try.f19.ntmps (bodyOf Try.f19) (retW pg Try.f19.results Q) E w) (argE [a0, a1, a2]) w H)

def lodestarlaw18_alive_j2 (Q : Cont) (t1_h : Value) : World → Prop :=
  bd 37 #[(0, (.int .u8 7))] fun v1 => Ret pg n_session_Hub_In #[t1_h, (.int .i64 5), (.int .u32 0), v1] fun v2 => ex v2 0 fun v3 => ex v2 1 fun _ => al 45 fun v5 => st 45 v5 v3 fun _ => bd 37 #[(0, (.int .u8 1)), (2, (.int .u32 3))] fun v6 => Ret pg n_session_Hub_In #[t1_h, (.int .i64 6), (.int .u32 0), v6] fun v7 => ex v7 0 fun v8 => ex v7 1 fun _ => al 45 fun v10 => st 45 v10 v8 fun _ => bd 37 #[(0, (.int .u8 13)), (1, (.int .u32 1))] fun v11 => Ret pg n_session_Hub_In #[t1_h, (.int .i64 6), (.int .u32 0), v11] fun v12 => ex v12 0 fun v13 => ex v12 1 fun _ => al 45 fun v15 => st 45 v15 v13 fun _ => fa 45 v15 3 fun v16 => ld 23 v16 fun v17 => bd 37 #[(0, (.int .u8 24)), (1, (.int .u32 1)), (14, (.int .u32 7))] fun v18 => Ret pg n_session_Hub_Told #[t1_h, v17, v18] fun v19 => bd 37 #[(0, (.int .u8 13)), (1, (.int .u32 1))] fun v20 => Ret pg n_session_Hub_In #[t1_h, (.int .i64 6), (.int .u32 0), v20] fun v21 => ex v21 0 fun v22 => ex v21 1 fun _ => al 45 fun v24 => st 45 v24 v22 fun _ => fa 45 v5 1 fun v25 => ld 43 v25 fun v26 => b_len #[43] 3 #[v26] fun v27 => bo .eql 3 v27 (.int .i64 1) fun v28 => iteW v28 (fa 45 v10 0 fun v29 => ld 42 v29 fun v30 => b_len #[42] 3 #[v30] fun v31 => bo .eql 3 v31 (.int .i64 1) fun v32 => iteW v32 (fa 45 v10 0 fun v33 => ld 42 v33 fun v34 => ia 42 v34 (.int .i64 0) fun v35 => fa 37 v35 3 fun v36 => ld 23 v36 fun v37 => bo .eql 23 v37 (.int .u64 1) fun v38 => iteW v38 (fa 45 v10 0 fun v39 => ld 42 v39 fun v40 => ia 42 v40 (.int .i64 0) fun v41 => fa 37 v41 5 fun v42 => ld 22 v42 fun v43 => bo .eql 22 v43 (.int .u32 4) fun v44 => iteW v44 (fa 45 v15 2 fun v45 => ld 4 v45 fun v46 => iteW v46 (fa 45 v15 3 fun v47 => ld 23 v47 fun v48 => bo .eql 23 v48 (.int .u64 1) fun v49 => iteW v49 (bo .eql 46 v19 (.int .i64 0) fun v50 => iteW v50 (fa 45 v24 2 fun v51 => ld 4 v51 fun v52 => uo .not v52 fun v53 => iteW v53 (fa 45 v24 0 fun v54 => ld 42 v54 fun v55 => b_len #[42] 3 #[v55] fun v56 => bo .eql 3 v56 (.int .i64 1) fun v57 => iteW v57 (fa 45 v24 0 fun v58 => ld 42 v58 fun v59 => ia 42 v59 (.int .i64 0) fun v60 => fa 37 v60 14 fun v61 => ld 22 v61 fun v62 => bo .eql 22 v62 (.int .u32 7) fun v63 => Q v63) (Q (.bool false))) (Q (.bool false))) (Q (.bool false))) (Q (.bool false))) (Q (.bool false))) (Q (.bool false))) (Q (.bool false))) (Q (.bool false))) (Q (.bool false))
def lodestarlaw18_alive_j3 (Q : Cont) (t1_h t23 : Value) : World → Prop :=
  iteW t23 (Q (.bool false)) (lodestarlaw18_alive_j2 Q t1_h)
def lodestarlaw18_alive_j1 (Q : Cont) (t1_h : Value) : World → Prop :=
  bo .eql 40 t1_h (.pointer none) fun v64 => iteW v64 (lodestarlaw18_alive_j3 Q t1_h (.bool true)) (Ret pg n_session_Hub_Open #[t1_h, (.int .i64 5)] fun v65 => bo .neq 46 v65 (.int .i64 0) fun v66 => iteW v66 (lodestarlaw18_alive_j3 Q t1_h (.bool true)) (Ret pg n_session_Hub_Open #[t1_h, (.int .i64 6)] fun v67 => bo .neq 46 v67 (.int .i64 0) fun v68 => lodestarlaw18_alive_j3 Q t1_h v68))
def lodestarlaw18_alive_j0 (Q : Cont) : World → Prop :=
  Ret pg n_session_New #[(.int .u32 3), (.int .i64 4), (.int .u32 9)] fun v69 => lodestarlaw18_alive_j1 Q v69
/-- F8 lodestar/lodestarlaw18.alive() -/
def lodestarlaw18_alive (Q : Cont) : World → Prop :=
  lodestarlaw18_alive_j0 Q
theorem lodestarlaw18_alive_ok {Q : Cont} {w : World} (H : lodestarlaw18_alive Q  w) : Ret pg n_lodestarlaw18_alive #[] Q w :=
  fn_sound (args := []) follows_pg Try.func8 (by kernel_rfl) (by kernel_rfl) (by kernel_rfl) ((fun (E : Env) (w : World) (H : lodestarlaw18_alive Q  w) => swp_join (fun (E : Env) (w : World) => lodestarlaw18_alive_j0 Q w) (fun E w H => swp_join (fun (E : Env) (w : World) => lodestarlaw18_alive_j1 Q (E 1) w) (fun E w H => swp_join (fun (E : Env) (w : World) => lodestarlaw18_alive_j2 Q (E 1) w) (fun E w H => cast_of (by kernel_rfl) H) (swp_join (fun (E : Env) (w : World) => lodestarlaw18_alive_j3 Q (E 1) (E 23) w) (fun E w H => cast_of (by kernel_rfl) H) (cast_of (by kernel_rfl) H))) (cast_of (by kernel_rfl) H)) (cast_of (by kernel_rfl) H) : ∀ (E : Env) (w : World), lodestarlaw18_alive Q  w → swp pg Try.f8.ntmps (bodyOf Try.f8) (retW pg Try.f8.results Q) E w) (argE []) w H)

def lodestarref03_Great_j2 (Q : Cont) (t0_l t3_n : Value) : World → Prop :=
  bo .geq 3 t3_n (.int .i64 20000) fun v1 => iteW v1 (Q (.bool true)) (b_len #[30] 3 #[t0_l] fun v2 => bo .gtr 3 v2 (.int .i64 300) fun v3 => Q v3)
def lodestarref03_Great_j4 (_Q : Cont) (nx0 : Value → Value → Value → World → Prop) (t0_l t3_n t4_i : Value) : World → Prop :=
  bo .add 3 t3_n (.int .i64 1) fun v4 => ia 30 t0_l t4_i fun v5 => ld 9 v5 fun v6 => b_len #[9] 3 #[v6] fun v7 => b_min #[3, 3] 3 #[v7, (.int .i64 20000)] fun v8 => bo .add 3 v4 v8 fun v9 => bo .add 3 t4_i (.int .i64 1) fun v10 => nx0 t0_l v9 v10
def lodestarref03_Great_j5 (Q : Cont) (nx0 : Value → Value → Value → World → Prop) (t0_l t3_n t4_i t12 : Value) : World → Prop :=
  iteW t12 (lodestarref03_Great_j4 Q nx0 t0_l t3_n t4_i) (lodestarref03_Great_j2 Q t0_l t3_n)
def lodestarref03_Great_l0b (Q : Cont) (nx0 : Value → Value → Value → World → Prop) (t0_l t3_n t4_i : Value) : World → Prop :=
  b_len #[30] 3 #[t0_l] fun v11 => bo .lss 3 t4_i v11 fun v12 => iteW v12 (bo .lss 3 t3_n (.int .i64 20000) fun v13 => lodestarref03_Great_j5 Q nx0 t0_l t3_n t4_i v13) (lodestarref03_Great_j5 Q nx0 t0_l t3_n t4_i (.bool false))
def lodestarref03_Great_l0 (Q : Cont) (t0_l t3_n t4_i : Value) : World → Prop :=
  LoopW (fun (nx : Value × Value × Value → World → Prop) (s : Value × Value × Value) => lodestarref03_Great_l0b Q (fun x0 x1 x2 => nx (x0, x1, x2)) s.1 s.2.1 s.2.2) (t0_l, t3_n, t4_i)
def lodestarref03_Great_j3 (Q : Cont) (t0_l t3_n t4_i : Value) : World → Prop :=
  lodestarref03_Great_l0 Q t0_l t3_n t4_i
def lodestarref03_Great_j1 (Q : Cont) (t0_l t3_n : Value) : World → Prop :=
  lodestarref03_Great_j3 Q t0_l t3_n (.int .i64 0)
def lodestarref03_Great_j0 (Q : Cont) (t0_l : Value) : World → Prop :=
  lodestarref03_Great_j1 Q t0_l (.int .i64 0)
/-- F17 lodestar/lodestarref03.Great(l) -/
def lodestarref03_Great (Q : Cont) (a0 : Value) : World → Prop :=
  lodestarref03_Great_j0 Q a0
theorem lodestarref03_Great_ok {Q : Cont} {a0 : Value} {w : World} (H : lodestarref03_Great Q a0 w) : Ret pg n_lodestarref03_Great #[a0] Q w :=
  fn_sound (args := [a0]) follows_pg Try.func17 (by kernel_rfl) (by kernel_rfl) (by kernel_rfl) ((fun (E : Env) (w : World) (H : lodestarref03_Great Q (E 0) w) => swp_join (fun (E : Env) (w : World) => lodestarref03_Great_j0 Q (E 0) w) (fun E w H => swp_join (fun (E : Env) (w : World) => lodestarref03_Great_j1 Q (E 0) (E 3) w) (fun E w H => swp_join (fun (E : Env) (w : World) => lodestarref03_Great_j2 Q (E 0) (E 3) w) (fun E w H => cast_of (by kernel_rfl) H) (swp_join (fun (E : Env) (w : World) => lodestarref03_Great_j3 Q (E 0) (E 3) (E 4) w) (fun E w H => swp_block (swp_loop (fun (E : Env) => (E 0, E 3, E 4)) _ (fun nx0 E w H => swp_join (fun (E : Env) (w : World) => lodestarref03_Great_j4 Q (fun x0 x1 x2 => nx0 (x0, x1, x2)) (E 0) (E 3) (E 4) w) (fun E w H => cast_of (by kernel_rfl) H) (swp_join (fun (E : Env) (w : World) => lodestarref03_Great_j5 Q (fun x0 x1 x2 => nx0 (x0, x1, x2)) (E 0) (E 3) (E 4) (E 12) w) (fun E w H => cast_of (by kernel_rfl) H) (cast_of (by kernel_rfl) H))) H)) (cast_of (by kernel_rfl) H))) (cast_of (by kernel_rfl) H)) (cast_of (by kernel_rfl) H) : ∀ (E : Env) (w : World), lodestarref03_Great Q (E 0) w → swp pg Try.f17.ntmps (bodyOf Try.f17) (retW pg Try.f17.results Q) E w) (argE [a0]) w H)

def lodestarref06_GreatChanges_j2 (Q : Cont) (t3_n : Value) : World → Prop :=
  bo .geq 3 t3_n (.int .i64 50000) fun v1 => Q v1
def lodestarref06_GreatChanges_j4 (Q : Cont) (nx0 : Value → Value → Value → World → Prop) (t0_l t3_n t4_i : Value) : World → Prop :=
  bo .add 3 t3_n (.int .i64 1) fun v2 => ia 28 t0_l t4_i fun v3 => fa 123 v3 1 fun v4 => fa 79 v4 1 fun v5 => ld 29 v5 fun v6 => b_len #[29] 3 #[v6] fun v7 => b_min #[3, 3] 3 #[v7, (.int .i64 50000)] fun v8 => bo .add 3 v2 v8 fun v9 => ia 28 t0_l t4_i fun v10 => fa 123 v10 1 fun v11 => fa 79 v11 2 fun v12 => ld 30 v12 fun v13 => Ret pg n_lodestarref03_Great #[v13] fun v14 => iteW v14 (Q (.bool true)) (bo .add 3 t4_i (.int .i64 1) fun v15 => nx0 t0_l v9 v15)
def lodestarref06_GreatChanges_j5 (Q : Cont) (nx0 : Value → Value → Value → World → Prop) (t0_l t3_n t4_i t12 : Value) : World → Prop :=
  iteW t12 (lodestarref06_GreatChanges_j4 Q nx0 t0_l t3_n t4_i) (lodestarref06_GreatChanges_j2 Q t3_n)
def lodestarref06_GreatChanges_l0b (Q : Cont) (nx0 : Value → Value → Value → World → Prop) (t0_l t3_n t4_i : Value) : World → Prop :=
  b_len #[28] 3 #[t0_l] fun v16 => bo .lss 3 t4_i v16 fun v17 => iteW v17 (bo .lss 3 t3_n (.int .i64 50000) fun v18 => lodestarref06_GreatChanges_j5 Q nx0 t0_l t3_n t4_i v18) (lodestarref06_GreatChanges_j5 Q nx0 t0_l t3_n t4_i (.bool false))
def lodestarref06_GreatChanges_l0 (Q : Cont) (t0_l t3_n t4_i : Value) : World → Prop :=
  LoopW (fun (nx : Value × Value × Value → World → Prop) (s : Value × Value × Value) => lodestarref06_GreatChanges_l0b Q (fun x0 x1 x2 => nx (x0, x1, x2)) s.1 s.2.1 s.2.2) (t0_l, t3_n, t4_i)
def lodestarref06_GreatChanges_j3 (Q : Cont) (t0_l t3_n t4_i : Value) : World → Prop :=
  lodestarref06_GreatChanges_l0 Q t0_l t3_n t4_i
def lodestarref06_GreatChanges_j1 (Q : Cont) (t0_l t3_n : Value) : World → Prop :=
  lodestarref06_GreatChanges_j3 Q t0_l t3_n (.int .i64 0)
def lodestarref06_GreatChanges_j0 (Q : Cont) (t0_l : Value) : World → Prop :=
  lodestarref06_GreatChanges_j1 Q t0_l (.int .i64 0)
/-- F26 lodestar/lodestarref06.GreatChanges(l) -/
def lodestarref06_GreatChanges (Q : Cont) (a0 : Value) : World → Prop :=
  lodestarref06_GreatChanges_j0 Q a0
theorem lodestarref06_GreatChanges_ok {Q : Cont} {a0 : Value} {w : World} (H : lodestarref06_GreatChanges Q a0 w) : Ret pg n_lodestarref06_GreatChanges #[a0] Q w :=
  fn_sound (args := [a0]) follows_pg Try.func26 (by kernel_rfl) (by kernel_rfl) (by kernel_rfl) ((fun (E : Env) (w : World) (H : lodestarref06_GreatChanges Q (E 0) w) => swp_join (fun (E : Env) (w : World) => lodestarref06_GreatChanges_j0 Q (E 0) w) (fun E w H => swp_join (fun (E : Env) (w : World) => lodestarref06_GreatChanges_j1 Q (E 0) (E 3) w) (fun E w H => swp_join (fun (E : Env) (w : World) => lodestarref06_GreatChanges_j2 Q (E 3) w) (fun E w H => cast_of (by kernel_rfl) H) (swp_join (fun (E : Env) (w : World) => lodestarref06_GreatChanges_j3 Q (E 0) (E 3) (E 4) w) (fun E w H => swp_block (swp_loop (fun (E : Env) => (E 0, E 3, E 4)) _ (fun nx0 E w H => swp_join (fun (E : Env) (w : World) => lodestarref06_GreatChanges_j4 Q (fun x0 x1 x2 => nx0 (x0, x1, x2)) (E 0) (E 3) (E 4) w) (fun E w H => cast_of (by kernel_rfl) H) (swp_join (fun (E : Env) (w : World) => lodestarref06_GreatChanges_j5 Q (fun x0 x1 x2 => nx0 (x0, x1, x2)) (E 0) (E 3) (E 4) (E 12) w) (fun E w H => cast_of (by kernel_rfl) H) (cast_of (by kernel_rfl) H))) H)) (cast_of (by kernel_rfl) H))) (cast_of (by kernel_rfl) H)) (cast_of (by kernel_rfl) H) : ∀ (E : Env) (w : World), lodestarref06_GreatChanges Q (E 0) w → swp pg Try.f26.ntmps (bodyOf Try.f26) (retW pg Try.f26.results Q) E w) (argE [a0]) w H)

def lodestarref06_Great_j3 (Q : Cont) (t1_x t3_n : Value) : World → Prop :=
  bo .geq 3 t3_n (.int .i64 50000) fun v1 => iteW v1 (Q (.bool true)) (fa 37 t1_x 8 fun v2 => ld 28 v2 fun v3 => Ret pg n_lodestarref06_GreatChanges #[v3] fun v4 => Q v4)
def lodestarref06_Great_j5 (Q : Cont) (nx0 : Value → Value → Value → World → Prop) (t1_x t3_n t4_i : Value) : World → Prop :=
  fa 37 t1_x 19 fun v5 => ld 34 v5 fun v6 => ia 34 v6 t4_i fun v7 => fa 79 v7 1 fun v8 => ld 29 v8 fun v9 => b_len #[29] 3 #[v9] fun v10 => b_min #[3, 3] 3 #[v10, (.int .i64 50000)] fun v11 => bo .add 3 t3_n v11 fun v12 => fa 37 t1_x 19 fun v13 => ld 34 v13 fun v14 => ia 34 v14 t4_i fun v15 => fa 79 v15 2 fun v16 => ld 30 v16 fun v17 => Ret pg n_lodestarref03_Great #[v17] fun v18 => iteW v18 (Q (.bool true)) (bo .add 3 t4_i (.int .i64 1) fun v19 => nx0 t1_x v12 v19)
def lodestarref06_Great_j6 (Q : Cont) (nx0 : Value → Value → Value → World → Prop) (t1_x t3_n t4_i t75 : Value) : World → Prop :=
  iteW t75 (lodestarref06_Great_j5 Q nx0 t1_x t3_n t4_i) (lodestarref06_Great_j3 Q t1_x t3_n)
def lodestarref06_Great_l0b (Q : Cont) (nx0 : Value → Value → Value → World → Prop) (t1_x t3_n t4_i : Value) : World → Prop :=
  fa 37 t1_x 19 fun v20 => ld 34 v20 fun v21 => b_len #[34] 3 #[v21] fun v22 => bo .lss 3 t4_i v22 fun v23 => iteW v23 (bo .lss 3 t3_n (.int .i64 50000) fun v24 => lodestarref06_Great_j6 Q nx0 t1_x t3_n t4_i v24) (lodestarref06_Great_j6 Q nx0 t1_x t3_n t4_i (.bool false))
def lodestarref06_Great_l0 (Q : Cont) (t1_x t3_n t4_i : Value) : World → Prop :=
  LoopW (fun (nx : Value × Value × Value → World → Prop) (s : Value × Value × Value) => lodestarref06_Great_l0b Q (fun x0 x1 x2 => nx (x0, x1, x2)) s.1 s.2.1 s.2.2) (t1_x, t3_n, t4_i)
def lodestarref06_Great_j4 (Q : Cont) (t1_x t3_n t4_i : Value) : World → Prop :=
  lodestarref06_Great_l0 Q t1_x t3_n t4_i
def lodestarref06_Great_j2 (Q : Cont) (t1_x t3_n : Value) : World → Prop :=
  lodestarref06_Great_j4 Q t1_x t3_n (.int .i64 0)
def lodestarref06_Great_j7 (Q : Cont) (t1_x t3_n t66 : Value) : World → Prop :=
  iteW t66 (Q (.bool true)) (lodestarref06_Great_j2 Q t1_x t3_n)
def lodestarref06_Great_j1 (Q : Cont) (t1_x t3_n : Value) : World → Prop :=
  bo .gtr 3 t3_n (.int .i64 50000) fun v25 => iteW v25 (lodestarref06_Great_j7 Q t1_x t3_n (.bool true)) (fa 37 t1_x 8 fun v26 => ld 28 v26 fun v27 => b_len #[28] 3 #[v27] fun v28 => bo .gtr 3 v28 (.int .i64 400) fun v29 => iteW v29 (lodestarref06_Great_j7 Q t1_x t3_n (.bool true)) (fa 37 t1_x 19 fun v30 => ld 34 v30 fun v31 => b_len #[34] 3 #[v31] fun v32 => bo .gtr 3 v32 (.int .i64 400) fun v33 => iteW v33 (lodestarref06_Great_j7 Q t1_x t3_n (.bool true)) (fa 37 t1_x 18 fun v34 => ld 30 v34 fun v35 => Ret pg n_lodestarref03_Great #[v35] fun v36 => iteW v36 (lodestarref06_Great_j7 Q t1_x t3_n (.bool true)) (fa 37 t1_x 13 fun v37 => fa 32 v37 0 fun v38 => ld 30 v38 fun v39 => Ret pg n_lodestarref03_Great #[v39] fun v40 => iteW v40 (lodestarref06_Great_j7 Q t1_x t3_n (.bool true)) (fa 37 t1_x 13 fun v41 => fa 32 v41 1 fun v42 => ld 30 v42 fun v43 => Ret pg n_lodestarref03_Great #[v43] fun v44 => iteW v44 (lodestarref06_Great_j7 Q t1_x t3_n (.bool true)) (fa 37 t1_x 13 fun v45 => fa 32 v45 2 fun v46 => ld 30 v46 fun v47 => Ret pg n_lodestarref03_Great #[v47] fun v48 => lodestarref06_Great_j7 Q t1_x t3_n v48))))))
def lodestarref06_Great_j0 (Q : Cont) (t1_x : Value) : World → Prop :=
  fa 37 t1_x 6 fun v49 => ld 9 v49 fun v50 => b_len #[9] 3 #[v50] fun v51 => b_min #[3, 3] 3 #[v51, (.int .i64 50001)] fun v52 => fa 37 t1_x 7 fun v53 => fa 27 v53 0 fun v54 => ld 9 v54 fun v55 => b_len #[9] 3 #[v55] fun v56 => b_min #[3, 3] 3 #[v56, (.int .i64 50001)] fun v57 => bo .add 3 v52 v57 fun v58 => fa 37 t1_x 16 fun v59 => ld 33 v59 fun v60 => b_len #[33] 3 #[v60] fun v61 => b_min #[3, 3] 3 #[v61, (.int .i64 50001)] fun v62 => bo .add 3 v58 v62 fun v63 => fa 37 t1_x 10 fun v64 => ld 29 v64 fun v65 => b_len #[29] 3 #[v65] fun v66 => b_min #[3, 3] 3 #[v66, (.int .i64 50001)] fun v67 => bo .add 3 v63 v67 fun v68 => fa 37 t1_x 20 fun v69 => ld 35 v69 fun v70 => b_len #[35] 3 #[v70] fun v71 => b_min #[3, 3] 3 #[v71, (.int .i64 50001)] fun v72 => bo .add 3 v68 v72 fun v73 => lodestarref06_Great_j1 Q t1_x v73
/-- F9 lodestar/lodestarref06.Great(x) -/
def lodestarref06_Great (Q : Cont) (a0 : Value) : World → Prop :=
  bx 37 a0 fun v74 => lodestarref06_Great_j0 Q v74
theorem lodestarref06_Great_ok {Q : Cont} {a0 : Value} {w : World} (H : lodestarref06_Great Q a0 w) : Ret pg n_lodestarref06_Great #[a0] Q w :=
  fn_sound (args := [a0]) follows_pg Try.func9 (by kernel_rfl) (by kernel_rfl) (by kernel_rfl) ((fun (E : Env) (w : World) (H : lodestarref06_Great Q (E 0) w) => swp_join (fun (E : Env) (w : World) => lodestarref06_Great_j0 Q (E 1) w) (fun E w H => swp_join (fun (E : Env) (w : World) => lodestarref06_Great_j1 Q (E 1) (E 3) w) (fun E w H => swp_join (fun (E : Env) (w : World) => lodestarref06_Great_j2 Q (E 1) (E 3) w) (fun E w H => swp_join (fun (E : Env) (w : World) => lodestarref06_Great_j3 Q (E 1) (E 3) w) (fun E w H => cast_of (by kernel_rfl) H) (swp_join (fun (E : Env) (w : World) => lodestarref06_Great_j4 Q (E 1) (E 3) (E 4) w) (fun E w H => swp_block (swp_loop (fun (E : Env) => (E 1, E 3, E 4)) _ (fun nx0 E w H => swp_join (fun (E : Env) (w : World) => lodestarref06_Great_j5 Q (fun x0 x1 x2 => nx0 (x0, x1, x2)) (E 1) (E 3) (E 4) w) (fun E w H => cast_of (by kernel_rfl) H) (swp_join (fun (E : Env) (w : World) => lodestarref06_Great_j6 Q (fun x0 x1 x2 => nx0 (x0, x1, x2)) (E 1) (E 3) (E 4) (E 75) w) (fun E w H => cast_of (by kernel_rfl) H) (cast_of (by kernel_rfl) H))) H)) (cast_of (by kernel_rfl) H))) (swp_join (fun (E : Env) (w : World) => lodestarref06_Great_j7 Q (E 1) (E 3) (E 66) w) (fun E w H => cast_of (by kernel_rfl) H) (cast_of (by kernel_rfl) H))) (cast_of (by kernel_rfl) H)) (cast_of (by kernel_rfl) H) : ∀ (E : Env) (w : World), lodestarref06_Great Q (E 0) w → swp pg Try.f9.ntmps (bodyOf Try.f9) (retW pg Try.f9.results Q) E w) (argE [a0]) w H)

def session_Hub_Conn_j1 (Q : Cont) : World → Prop :=
  Q (.tuple #[(.int .i64 0), (.bool false)])
def session_Hub_Conn_j3 (Q : Cont) (t6_s t21 : Value) : World → Prop :=
  iteW t21 (nc t6_s fun v1 => fa 94 v1 4 fun v2 => ld 85 v2 fun v3 => nc v3 fun v4 => fa 88 v4 0 fun v5 => ld 3 v5 fun v6 => Q (.tuple #[v6, (.bool true)])) (session_Hub_Conn_j1 Q)
def session_Hub_Conn_j2 (Q : Cont) (t6_s : Value) : World → Prop :=
  bo .neq 86 t6_s (.pointer none) fun v7 => iteW v7 (nc t6_s fun v8 => fa 94 v8 4 fun v9 => ld 85 v9 fun v10 => bo .neq 85 v10 (.pointer none) fun v11 => session_Hub_Conn_j3 Q t6_s v11) (session_Hub_Conn_j3 Q t6_s (.bool false))
def session_Hub_Conn_j0 (Q : Cont) (t0_h t1_token : Value) : World → Prop :=
  nc t0_h fun v12 => fa 84 v12 4 fun v13 => ld 82 v13 fun v14 => lk 82 v14 t1_token false fun v15 => session_Hub_Conn_j2 Q v15
/-- F13 (*lodestar/session.Hub).Conn(h, token) -/
def session_Hub_Conn (Q : Cont) (a0 a1 : Value) : World → Prop :=
  session_Hub_Conn_j0 Q a0 a1
theorem session_Hub_Conn_ok {Q : Cont} {a0 a1 : Value} {w : World} (H : session_Hub_Conn Q a0 a1 w) : Ret pg n_session_Hub_Conn #[a0, a1] Q w :=
  fn_sound (args := [a0, a1]) follows_pg Try.func13 (by kernel_rfl) (by kernel_rfl) (by kernel_rfl) ((fun (E : Env) (w : World) (H : session_Hub_Conn Q (E 0) (E 1) w) => swp_join (fun (E : Env) (w : World) => session_Hub_Conn_j0 Q (E 0) (E 1) w) (fun E w H => swp_join (fun (E : Env) (w : World) => session_Hub_Conn_j1 Q w) (fun E w H => cast_of (by kernel_rfl) H) (swp_join (fun (E : Env) (w : World) => session_Hub_Conn_j2 Q (E 6) w) (fun E w H => swp_join (fun (E : Env) (w : World) => session_Hub_Conn_j3 Q (E 6) (E 21) w) (fun E w H => cast_of (by kernel_rfl) H) (cast_of (by kernel_rfl) H)) (cast_of (by kernel_rfl) H))) (cast_of (by kernel_rfl) H) : ∀ (E : Env) (w : World), session_Hub_Conn Q (E 0) (E 1) w → swp pg Try.f13.ntmps (bodyOf Try.f13) (retW pg Try.f13.results Q) E w) (argE [a0, a1]) w H)

/-- F14 (*lodestar/session.Hub).Conns(h) -/
def session_Hub_Conns (Q : Cont) (a0 : Value) : World → Prop :=
  nc a0 fun v1 => fa 84 v1 3 fun v2 => ld 81 v2 fun v3 => b_len #[81] 3 #[v3] fun v4 => Q v4
theorem session_Hub_Conns_ok {Q : Cont} {a0 : Value} {w : World} (H : session_Hub_Conns Q a0 w) : Ret pg n_session_Hub_Conns #[a0] Q w :=
  fn_sound (args := [a0]) follows_pg Try.func14 (by kernel_rfl) (by kernel_rfl) (by kernel_rfl) ((fun (E : Env) (w : World) (H : session_Hub_Conns Q (E 0) w) => cast_of (by kernel_rfl) H : ∀ (E : Env) (w : World), session_Hub_Conns Q (E 0) w → swp pg Try.f14.ntmps (bodyOf Try.f14) (retW pg Try.f14.results Q) E w) (argE [a0]) w H)

/-- F15 (*lodestar/session.Hub).Sessions(h) -/
def session_Hub_Sessions (Q : Cont) (a0 : Value) : World → Prop :=
  nc a0 fun v1 => fa 84 v1 4 fun v2 => ld 82 v2 fun v3 => b_len #[82] 3 #[v3] fun v4 => Q v4
theorem session_Hub_Sessions_ok {Q : Cont} {a0 : Value} {w : World} (H : session_Hub_Sessions Q a0 w) : Ret pg n_session_Hub_Sessions #[a0] Q w :=
  fn_sound (args := [a0]) follows_pg Try.func15 (by kernel_rfl) (by kernel_rfl) (by kernel_rfl) ((fun (E : Env) (w : World) (H : session_Hub_Sessions Q (E 0) w) => cast_of (by kernel_rfl) H : ∀ (E : Env) (w : World), session_Hub_Sessions Q (E 0) w → swp pg Try.f15.ntmps (bodyOf Try.f15) (retW pg Try.f15.results Q) E w) (argE [a0]) w H)

def lodestarlaw18_SessionAlone_j11 (Q : Cont) (t10_u : Value) : World → Prop :=
  fa 45 t10_u 0 fun v1 => ld 42 v1 fun v2 => b_len #[42] 3 #[v2] fun v3 => bo .eql 3 v3 (.int .i64 1) fun v4 => iteW v4 (fa 45 t10_u 0 fun v5 => ld 42 v5 fun v6 => ia 42 v6 (.int .i64 0) fun v7 => fa 37 v7 0 fun v8 => ld 5 v8 fun v9 => bo .eql 5 v9 (.int .u8 6) fun v10 => iteW v10 (fa 45 t10_u 0 fun v11 => ld 42 v11 fun v12 => ia 42 v12 (.int .i64 0) fun v13 => fa 37 v13 4 fun v14 => ld 5 v14 fun v15 => cv 5 3 v15 fun v16 => bo .eql 3 v16 (.int .i64 180) fun v17 => Q v17) (Q (.bool false))) (Q (.bool false))
def lodestarlaw18_SessionAlone_j14 (Q : Cont) (t10_u t148 : Value) : World → Prop :=
  iteW t148 (fa 45 t10_u 0 fun v22 => ld 42 v22 fun v23 => b_len #[42] 3 #[v23] fun v24 => bo .eql 3 v24 (.int .i64 1) fun v25 => iteW v25 (fa 45 t10_u 0 fun v26 => ld 42 v26 fun v27 => ia 42 v27 (.int .i64 0) fun v28 => fa 37 v28 0 fun v29 => ld 5 v29 fun v30 => bo .eql 5 v30 (.int .u8 5) fun v31 => Q v31) (Q (.bool false))) (lodestarlaw18_SessionAlone_j11 Q t10_u)
def lodestarlaw18_SessionAlone_c0 (Q : Cont) (t10_u t141 : Value) : World → Prop :=
  bo .eql 5 t141 (.int .u8 1) fun v32 => iteW v32 (lodestarlaw18_SessionAlone_j14 Q t10_u v32) (bo .eql 5 t141 (.int .u8 3) fun v33 => lodestarlaw18_SessionAlone_j14 Q t10_u v33)
def lodestarlaw18_SessionAlone_j13 (Q : Cont) (t10_u t141 t142 : Value) : World → Prop :=
  iteW t142 (fa 45 t10_u 0 fun v18 => ld 42 v18 fun v19 => b_len #[42] 3 #[v19] fun v20 => bo .eql 3 v20 (.int .i64 0) fun v21 => Q v21) (lodestarlaw18_SessionAlone_c0 Q t10_u t141)
def lodestarlaw18_SessionAlone_j12 (Q : Cont) (t10_u t141 : Value) : World → Prop :=
  bo .eql 5 t141 (.int .u8 6) fun v34 => lodestarlaw18_SessionAlone_j13 Q t10_u t141 v34
def lodestarlaw18_SessionAlone_j10 (Q : Cont) (t4_x t10_u : Value) : World → Prop :=
  fa 37 t4_x 0 fun v35 => ld 5 v35 fun v36 => lodestarlaw18_SessionAlone_j12 Q t10_u v36
def lodestarlaw18_SessionAlone_j15 (Q : Cont) (t4_x t10_u t139 : Value) : World → Prop :=
  iteW t139 (Q (.bool false)) (lodestarlaw18_SessionAlone_j10 Q t4_x t10_u)
def lodestarlaw18_SessionAlone_j9 (Q : Cont) (t0_conn t4_x t7_h t10_u : Value) : World → Prop :=
  fa 45 t10_u 1 fun v37 => ld 43 v37 fun v38 => b_len #[43] 3 #[v38] fun v39 => bo .neq 3 v39 (.int .i64 1) fun v40 => iteW v40 (lodestarlaw18_SessionAlone_j15 Q t4_x t10_u (.bool true)) (fa 45 t10_u 1 fun v41 => ld 43 v41 fun v42 => ia 43 v42 (.int .i64 0) fun v43 => ld 3 v43 fun v44 => bo .neq 3 v44 t0_conn fun v45 => iteW v45 (lodestarlaw18_SessionAlone_j15 Q t4_x t10_u (.bool true)) (Ret pg n_session_Hub_Conns #[t7_h] fun v46 => bo .neq 3 v46 (.int .i64 0) fun v47 => iteW v47 (lodestarlaw18_SessionAlone_j15 Q t4_x t10_u (.bool true)) (Ret pg n_session_Hub_Sessions #[t7_h] fun v48 => bo .neq 3 v48 (.int .i64 0) fun v49 => lodestarlaw18_SessionAlone_j15 Q t4_x t10_u v49)))
def lodestarlaw18_SessionAlone_j16 (Q : Cont) (t0_conn t4_x t7_h t10_u t70 : Value) : World → Prop :=
  iteW t70 (Ret pg n_session_Hub_Conn #[t7_h, (.int .u64 1)] fun v50 => ex v50 0 fun v51 => ex v50 1 fun v52 => (fun w0 => faq 45 t10_u 1 (fun v53 => ldq 43 v53 (fun v54 => b_lenq #[43] 3 #[v54] (fun v55 => boq .eql 3 v55 (.int .i64 0) (fun v56 => condW v56 (faq 45 t10_u 0 (fun v57 => ldq 42 v57 (fun v58 => b_lenq #[42] 3 #[v58] (fun v59 => boq .eql 3 v59 (.int .i64 1) (fun v60 => condW v60 (faq 45 t10_u 0 (fun v61 => ldq 42 v61 (fun v62 => iaq 42 v62 (.int .i64 0) (fun v63 => faq 37 v63 0 (fun v64 => ldq 5 v64 (fun v65 => boq .eql 5 v65 (.int .u8 2) (fun v66 => condW v66 (faq 45 t10_u 0 (fun v67 => ldq 42 v67 (fun v68 => iaq 42 v68 (.int .i64 0) (fun v69 => faq 37 v69 2 (fun v70 => ldq 22 v70 (fun v71 => faq 37 t4_x 2 (fun v72 => ldq 22 v72 (fun v73 => boq .rem 22 v73 (.int .u32 4) (fun v74 => boq .eql 22 v71 v74 (fun v75 => condW v75 (condW v52 (boq .eql 3 v51 t0_conn (fun v76 => condW v76 (Ret pg n_session_Hub_Conns #[t7_h] (fun v77 w1 => boq .eql 3 v77 (.int .i64 1) (fun v78 => (Q v78) w1) w1) (drw w0)) ((Q (.bool false)) (drw w0))) (drw w0)) ((Q (.bool false)) (drw w0))) ((Q (.bool false)) (drw w0))) (drw w0)) (drw w0)) (drw w0)) (drw w0)) (drw w0)) (drw w0)) (drw w0)) (drw w0)) (drw w0)) ((Q (.bool false)) (drw w0))) (drw w0)) (drw w0)) (drw w0)) (drw w0)) (drw w0)) (drw w0)) ((Q (.bool false)) (drw w0))) (drw w0)) (drw w0)) (drw w0)) (drw w0)) ((Q (.bool false)) (drw w0))) (drw w0)) (drw w0)) (drw w0)) (drw w0))) (lodestarlaw18_SessionAlone_j9 Q t0_conn t4_x t7_h t10_u)
def lodestarlaw18_SessionAlone_j8 (Q : Cont) (t0_conn t4_x t7_h t10_u : Value) : World → Prop :=
  fa 37 t4_x 0 fun v79 => ld 5 v79 fun v80 => bo .eql 5 v80 (.int .u8 1) fun v81 => iteW v81 (fa 37 t4_x 2 fun v82 => ld 22 v82 fun v83 => bo .rem 22 v83 (.int .u32 4) fun v84 => bo .neq 22 v84 (.int .u32 0) fun v85 => lodestarlaw18_SessionAlone_j16 Q t0_conn t4_x t7_h t10_u v85) (lodestarlaw18_SessionAlone_j16 Q t0_conn t4_x t7_h t10_u (.bool false))
def lodestarlaw18_SessionAlone_j17 (Q : Cont) (t0_conn t4_x t7_h t10_u t61 : Value) : World → Prop :=
  iteW t61 (Q (.bool false)) (lodestarlaw18_SessionAlone_j8 Q t0_conn t4_x t7_h t10_u)
def lodestarlaw18_SessionAlone_j7 (Q : Cont) (t0_conn t4_x t7_h t10_u t11_f : Value) : World → Prop :=
  bo .neq 46 t11_f (.int .i64 0) fun v86 => iteW v86 (lodestarlaw18_SessionAlone_j17 Q t0_conn t4_x t7_h t10_u (.bool true)) (fa 45 t10_u 2 fun v87 => ld 4 v87 fun v88 => lodestarlaw18_SessionAlone_j17 Q t0_conn t4_x t7_h t10_u v88)
def lodestarlaw18_SessionAlone_j6 (Q : Cont) (t0_conn t2_now t4_x t7_h : Value) : World → Prop :=
  ld 37 t4_x fun v89 => Ret pg n_session_Hub_In #[t7_h, t0_conn, t2_now, v89] fun v90 => ex v90 0 fun v91 => ex v90 1 fun v92 => al 45 fun v93 => st 45 v93 v91 fun _ => lodestarlaw18_SessionAlone_j7 Q t0_conn t4_x t7_h v93 v92
def lodestarlaw18_SessionAlone_j5 (Q : Cont) (t0_conn t2_now t4_x t7_h : Value) : World → Prop :=
  Ret pg n_session_Hub_Open #[t7_h, t0_conn] fun _ => lodestarlaw18_SessionAlone_j6 Q t0_conn t2_now t4_x t7_h
def lodestarlaw18_SessionAlone_j18 (Q : Cont) (t0_conn t2_now t4_x t7_h t44 : Value) : World → Prop :=
  iteW t44 (Q (.bool false)) (lodestarlaw18_SessionAlone_j5 Q t0_conn t2_now t4_x t7_h)
def lodestarlaw18_SessionAlone_j4 (Q : Cont) (t0_conn t2_now t4_x t7_h t8_t t9_e : Value) : World → Prop :=
  bo .neq 46 t9_e (.int .i64 2) fun v95 => iteW v95 (lodestarlaw18_SessionAlone_j18 Q t0_conn t2_now t4_x t7_h (.bool true)) (fa 45 t8_t 0 fun v96 => ld 42 v96 fun v97 => b_len #[42] 3 #[v97] fun v98 => bo .gtr 3 v98 (.int .i64 0) fun v99 => iteW v99 (lodestarlaw18_SessionAlone_j18 Q t0_conn t2_now t4_x t7_h (.bool true)) (fa 45 t8_t 1 fun v100 => ld 43 v100 fun v101 => b_len #[43] 3 #[v101] fun v102 => bo .gtr 3 v102 (.int .i64 0) fun v103 => iteW v103 (lodestarlaw18_SessionAlone_j18 Q t0_conn t2_now t4_x t7_h (.bool true)) (fa 45 t8_t 2 fun v104 => ld 4 v104 fun v105 => lodestarlaw18_SessionAlone_j18 Q t0_conn t2_now t4_x t7_h v105)))
def lodestarlaw18_SessionAlone_j3 (Q : Cont) (t0_conn t2_now t4_x t7_h : Value) : World → Prop :=
  ld 37 t4_x fun v106 => Ret pg n_session_Hub_In #[t7_h, t0_conn, t2_now, v106] fun v107 => ex v107 0 fun v108 => ex v107 1 fun v109 => al 45 fun v110 => st 45 v110 v108 fun _ => lodestarlaw18_SessionAlone_j4 Q t0_conn t2_now t4_x t7_h v110 v109
def lodestarlaw18_SessionAlone_j2 (Q : Cont) (t0_conn t2_now t4_x : Value) : World → Prop :=
  Ret pg n_session_New #[(.int .u32 3), (.int .i64 4), (.int .u32 9)] fun v111 => lodestarlaw18_SessionAlone_j3 Q t0_conn t2_now t4_x v111
def lodestarlaw18_SessionAlone_j1 (Q : Cont) (t0_conn t2_now t4_x : Value) : World → Prop :=
  ld 37 t4_x fun v112 => Ret pg n_lodestarref06_Great #[v112] fun v113 => iteW v113 (Q (.bool true)) (lodestarlaw18_SessionAlone_j2 Q t0_conn t2_now t4_x)
def lodestarlaw18_SessionAlone_j0 (Q : Cont) (t0_conn t2_now t4_x : Value) : World → Prop :=
  Ret pg n_lodestarlaw18_alive #[] fun v114 => uo .not v114 fun v115 => iteW v115 (Q (.bool false)) (lodestarlaw18_SessionAlone_j1 Q t0_conn t2_now t4_x)
/-- F3 lodestar/lodestarlaw18.SessionAlone(conn, x, now) -/
def lodestarlaw18_SessionAlone (Q : Cont) (a0 a1 a2 : Value) : World → Prop :=
  bx 37 a1 fun v116 => lodestarlaw18_SessionAlone_j0 Q a0 a2 v116
theorem lodestarlaw18_SessionAlone_ok {Q : Cont} {a0 a1 a2 : Value} {w : World} (H : lodestarlaw18_SessionAlone Q a0 a1 a2 w) : Ret pg n_lodestarlaw18_SessionAlone #[a0, a1, a2] Q w :=
  fn_sound (args := [a0, a1, a2]) follows_pg Try.func3 (by kernel_rfl) (by kernel_rfl) (by kernel_rfl) ((fun (E : Env) (w : World) (H : lodestarlaw18_SessionAlone Q (E 0) (E 1) (E 2) w) => swp_join (fun (E : Env) (w : World) => lodestarlaw18_SessionAlone_j0 Q (E 0) (E 2) (E 4) w) (fun E w H => swp_join (fun (E : Env) (w : World) => lodestarlaw18_SessionAlone_j1 Q (E 0) (E 2) (E 4) w) (fun E w H => swp_join (fun (E : Env) (w : World) => lodestarlaw18_SessionAlone_j2 Q (E 0) (E 2) (E 4) w) (fun E w H => swp_join (fun (E : Env) (w : World) => lodestarlaw18_SessionAlone_j3 Q (E 0) (E 2) (E 4) (E 7) w) (fun E w H => swp_join (fun (E : Env) (w : World) => lodestarlaw18_SessionAlone_j4 Q (E 0) (E 2) (E 4) (E 7) (E 8) (E 9) w) (fun E w H => swp_join (fun (E : Env) (w : World) => lodestarlaw18_SessionAlone_j5 Q (E 0) (E 2) (E 4) (E 7) w) (fun E w H => swp_join (fun (E : Env) (w : World) => lodestarlaw18_SessionAlone_j6 Q (E 0) (E 2) (E 4) (E 7) w) (fun E w H => swp_join (fun (E : Env) (w : World) => lodestarlaw18_SessionAlone_j7 Q (E 0) (E 4) (E 7) (E 10) (E 11) w) (fun E w H => swp_join (fun (E : Env) (w : World) => lodestarlaw18_SessionAlone_j8 Q (E 0) (E 4) (E 7) (E 10) w) (fun E w H => swp_join (fun (E : Env) (w : World) => lodestarlaw18_SessionAlone_j9 Q (E 0) (E 4) (E 7) (E 10) w) (fun E w H => swp_join (fun (E : Env) (w : World) => lodestarlaw18_SessionAlone_j10 Q (E 4) (E 10) w) (fun E w H => swp_join (fun (E : Env) (w : World) => lodestarlaw18_SessionAlone_j11 Q (E 10) w) (fun E w H => cast_of (by kernel_rfl) H) (swp_join (fun (E : Env) (w : World) => lodestarlaw18_SessionAlone_j12 Q (E 10) (E 141) w) (fun E w H => swp_block (swp_join (fun (E : Env) (w : World) => lodestarlaw18_SessionAlone_j13 Q (E 10) (E 141) (E 142) w) (fun E w H => swp_cond (by exact H) (fun H => cast_of (by kernel_rfl) H) (fun H => swp_join (fun (E : Env) (w : World) => lodestarlaw18_SessionAlone_j14 Q (E 10) (E 148) w) (fun E w H => cast_of (by kernel_rfl) H) (cast_of (by kernel_rfl) H))) (cast_of (by kernel_rfl) H))) (cast_of (by kernel_rfl) H))) (swp_join (fun (E : Env) (w : World) => lodestarlaw18_SessionAlone_j15 Q (E 4) (E 10) (E 139) w) (fun E w H => cast_of (by kernel_rfl) H) (cast_of (by kernel_rfl) H))) (swp_join (fun (E : Env) (w : World) => lodestarlaw18_SessionAlone_j16 Q (E 0) (E 4) (E 7) (E 10) (E 70) w) (fun E w H => cast_of (by kernel_rfl) H) (cast_of (by kernel_rfl) H))) (swp_join (fun (E : Env) (w : World) => lodestarlaw18_SessionAlone_j17 Q (E 0) (E 4) (E 7) (E 10) (E 61) w) (fun E w H => cast_of (by kernel_rfl) H) (cast_of (by kernel_rfl) H))) (cast_of (by kernel_rfl) H)) (cast_of (by kernel_rfl) H)) (swp_join (fun (E : Env) (w : World) => lodestarlaw18_SessionAlone_j18 Q (E 0) (E 2) (E 4) (E 7) (E 44) w) (fun E w H => cast_of (by kernel_rfl) H) (cast_of (by kernel_rfl) H))) (cast_of (by kernel_rfl) H)) (cast_of (by kernel_rfl) H)) (cast_of (by kernel_rfl) H)) (cast_of (by kernel_rfl) H)) (cast_of (by kernel_rfl) H) : ∀ (E : Env) (w : World), lodestarlaw18_SessionAlone Q (E 0) (E 1) (E 2) w → swp pg Try.f3.ntmps (bodyOf Try.f3) (retW pg Try.f3.results Q) E w) (argE [a0, a1, a2]) w H)

/-- F59 slices.Clone[[]string,string](s) -/
def slices_Clone_string_string (Q : Cont) (a0 : Value) : World → Prop :=
  bo .eql 30 a0 (.slice none 0 0) fun v1 => iteW v1 (Q (.slice none 0 0)) (bs 30 0 #[] fun v2 => b_append #[30, 30] 30 #[v2, a0] fun v3 => Q v3)
theorem slices_Clone_string_string_ok {Q : Cont} {a0 : Value} {w : World} (H : slices_Clone_string_string Q a0 w) : Ret pg n_slices_Clone_string_string #[a0] Q w :=
  fn_sound (args := [a0]) follows_pg Try.func59 (by kernel_rfl) (by kernel_rfl) (by kernel_rfl) ((fun (E : Env) (w : World) (H : slices_Clone_string_string Q (E 0) w) => cast_of (by kernel_rfl) H : ∀ (E : Env) (w : World), slices_Clone_string_string Q (E 0) w → swp pg Try.f59.ntmps (bodyOf Try.f59) (retW pg Try.f59.results Q) E w) (argE [a0]) w H)

def math_bits_Len32_j2 (Q : Cont) (t0_x t2_n : Value) : World → Prop :=
  cv 22 5 t0_x fun v1 => ix 9 (.string ⟨#[0, 1, 2, 2, 3, 3, 3, 3, 4, 4, 4, 4, 4, 4, 4, 4, 5, 5, 5, 5, 5, 5, 5, 5, 5, 5, 5, 5, 5, 5, 5, 5, 6, 6, 6, 6, 6, 6, 6, 6, 6, 6, 6, 6, 6, 6, 6, 6, 6, 6, 6, 6, 6, 6, 6, 6, 6, 6, 6, 6, 6, 6, 6, 6, 7, 7, 7, 7, 7, 7, 7, 7, 7, 7, 7, 7, 7, 7, 7, 7, 7, 7, 7, 7, 7, 7, 7, 7, 7, 7, 7, 7, 7, 7, 7, 7, 7, 7, 7, 7, 7, 7, 7, 7, 7, 7, 7, 7, 7, 7, 7, 7, 7, 7, 7, 7, 7, 7, 7, 7, 7, 7, 7, 7, 7, 7, 7, 7, 8, 8, 8, 8, 8, 8, 8, 8, 8, 8, 8, 8, 8, 8, 8, 8, 8, 8, 8, 8, 8, 8, 8, 8, 8, 8, 8, 8, 8, 8, 8, 8, 8, 8, 8, 8, 8, 8, 8, 8, 8, 8, 8, 8, 8, 8, 8, 8, 8, 8, 8, 8, 8, 8, 8, 8, 8, 8, 8, 8, 8, 8, 8, 8, 8, 8, 8, 8, 8, 8, 8, 8, 8, 8, 8, 8, 8, 8, 8, 8, 8, 8, 8, 8, 8, 8, 8, 8, 8, 8, 8, 8, 8, 8, 8, 8, 8, 8, 8, 8, 8, 8, 8, 8, 8, 8, 8, 8, 8, 8, 8, 8, 8, 8, 8, 8, 8, 8, 8, 8, 8, 8, 8, 8, 8, 8, 8, 8]⟩) v1 fun v2 => cv 5 3 v2 fun v3 => bo .add 3 t2_n v3 fun v4 => Q v4
def math_bits_Len32_j1 (Q : Cont) (t0_x t2_n : Value) : World → Prop :=
  bo .geq 22 t0_x (.int .u32 256) fun v5 => iteW v5 (bo .shr 22 t0_x (.int .u64 8) fun v6 => bo .add 3 t2_n (.int .i64 8) fun v7 => math_bits_Len32_j2 Q v6 v7) (math_bits_Len32_j2 Q t0_x t2_n)
def math_bits_Len32_j0 (Q : Cont) (t0_x t2_n : Value) : World → Prop :=
  bo .geq 22 t0_x (.int .u32 65536) fun v8 => iteW v8 (bo .shr 22 t0_x (.int .u64 16) fun v9 => math_bits_Len32_j1 Q v9 (.int .i64 16)) (math_bits_Len32_j1 Q t0_x t2_n)
/-- F99 math/bits.Len32(x) -/
def math_bits_Len32 (Q : Cont) (a0 : Value) : World → Prop :=
  math_bits_Len32_j0 Q a0 (.int .i64 0)
theorem math_bits_Len32_ok {Q : Cont} {a0 : Value} {w : World} (H : math_bits_Len32 Q a0 w) : Ret pg n_math_bits_Len32 #[a0] Q w :=
  fn_sound (args := [a0]) follows_pg Try.func99 (by kernel_rfl) (by kernel_rfl) (by kernel_rfl) ((fun (E : Env) (w : World) (H : math_bits_Len32 Q (E 0) w) => swp_join (fun (E : Env) (w : World) => math_bits_Len32_j0 Q (E 0) (E 2) w) (fun E w H => swp_join (fun (E : Env) (w : World) => math_bits_Len32_j1 Q (E 0) (E 2) w) (fun E w H => swp_join (fun (E : Env) (w : World) => math_bits_Len32_j2 Q (E 0) (E 2) w) (fun E w H => cast_of (by kernel_rfl) H) (cast_of (by kernel_rfl) H)) (cast_of (by kernel_rfl) H)) (cast_of (by kernel_rfl) H) : ∀ (E : Env) (w : World), math_bits_Len32 Q (E 0) w → swp pg Try.f99.ntmps (bodyOf Try.f99) (retW pg Try.f99.results Q) E w) (argE [a0]) w H)

def math_bits_Len64_j3 (Q : Cont) (t0_x t2_n : Value) : World → Prop :=
  cv 23 5 t0_x fun v1 => ix 9 (.string ⟨#[0, 1, 2, 2, 3, 3, 3, 3, 4, 4, 4, 4, 4, 4, 4, 4, 5, 5, 5, 5, 5, 5, 5, 5, 5, 5, 5, 5, 5, 5, 5, 5, 6, 6, 6, 6, 6, 6, 6, 6, 6, 6, 6, 6, 6, 6, 6, 6, 6, 6, 6, 6, 6, 6, 6, 6, 6, 6, 6, 6, 6, 6, 6, 6, 7, 7, 7, 7, 7, 7, 7, 7, 7, 7, 7, 7, 7, 7, 7, 7, 7, 7, 7, 7, 7, 7, 7, 7, 7, 7, 7, 7, 7, 7, 7, 7, 7, 7, 7, 7, 7, 7, 7, 7, 7, 7, 7, 7, 7, 7, 7, 7, 7, 7, 7, 7, 7, 7, 7, 7, 7, 7, 7, 7, 7, 7, 7, 7, 8, 8, 8, 8, 8, 8, 8, 8, 8, 8, 8, 8, 8, 8, 8, 8, 8, 8, 8, 8, 8, 8, 8, 8, 8, 8, 8, 8, 8, 8, 8, 8, 8, 8, 8, 8, 8, 8, 8, 8, 8, 8, 8, 8, 8, 8, 8, 8, 8, 8, 8, 8, 8, 8, 8, 8, 8, 8, 8, 8, 8, 8, 8, 8, 8, 8, 8, 8, 8, 8, 8, 8, 8, 8, 8, 8, 8, 8, 8, 8, 8, 8, 8, 8, 8, 8, 8, 8, 8, 8, 8, 8, 8, 8, 8, 8, 8, 8, 8, 8, 8, 8, 8, 8, 8, 8, 8, 8, 8, 8, 8, 8, 8, 8, 8, 8, 8, 8, 8, 8, 8, 8, 8, 8, 8, 8, 8, 8]⟩) v1 fun v2 => cv 5 3 v2 fun v3 => bo .add 3 t2_n v3 fun v4 => Q v4
def math_bits_Len64_j2 (Q : Cont) (t0_x t2_n : Value) : World → Prop :=
  bo .geq 23 t0_x (.int .u64 256) fun v5 => iteW v5 (bo .shr 23 t0_x (.int .u64 8) fun v6 => bo .add 3 t2_n (.int .i64 8) fun v7 => math_bits_Len64_j3 Q v6 v7) (math_bits_Len64_j3 Q t0_x t2_n)
def math_bits_Len64_j1 (Q : Cont) (t0_x t2_n : Value) : World → Prop :=
  bo .geq 23 t0_x (.int .u64 65536) fun v8 => iteW v8 (bo .shr 23 t0_x (.int .u64 16) fun v9 => bo .add 3 t2_n (.int .i64 16) fun v10 => math_bits_Len64_j2 Q v9 v10) (math_bits_Len64_j2 Q t0_x t2_n)
def math_bits_Len64_j0 (Q : Cont) (t0_x t2_n : Value) : World → Prop :=
  bo .geq 23 t0_x (.int .u64 4294967296) fun v11 => iteW v11 (bo .shr 23 t0_x (.int .u64 32) fun v12 => math_bits_Len64_j1 Q v12 (.int .i64 32)) (math_bits_Len64_j1 Q t0_x t2_n)
/-- F100 math/bits.Len64(x) -/
def math_bits_Len64 (Q : Cont) (a0 : Value) : World → Prop :=
  math_bits_Len64_j0 Q a0 (.int .i64 0)
theorem math_bits_Len64_ok {Q : Cont} {a0 : Value} {w : World} (H : math_bits_Len64 Q a0 w) : Ret pg n_math_bits_Len64 #[a0] Q w :=
  fn_sound (args := [a0]) follows_pg Try.func100 (by kernel_rfl) (by kernel_rfl) (by kernel_rfl) ((fun (E : Env) (w : World) (H : math_bits_Len64 Q (E 0) w) => swp_join (fun (E : Env) (w : World) => math_bits_Len64_j0 Q (E 0) (E 2) w) (fun E w H => swp_join (fun (E : Env) (w : World) => math_bits_Len64_j1 Q (E 0) (E 2) w) (fun E w H => swp_join (fun (E : Env) (w : World) => math_bits_Len64_j2 Q (E 0) (E 2) w) (fun E w H => swp_join (fun (E : Env) (w : World) => math_bits_Len64_j3 Q (E 0) (E 2) w) (fun E w H => cast_of (by kernel_rfl) H) (cast_of (by kernel_rfl) H)) (cast_of (by kernel_rfl) H)) (cast_of (by kernel_rfl) H)) (cast_of (by kernel_rfl) H) : ∀ (E : Env) (w : World), math_bits_Len64 Q (E 0) w → swp pg Try.f100.ntmps (bodyOf Try.f100) (retW pg Try.f100.results Q) E w) (argE [a0]) w H)

/-- F80 math/bits.Len(x) -/
def math_bits_Len (Q : Cont) (a0 : Value) : World → Prop :=
  iteW (.bool false) (cv 161 22 a0 fun v1 => Ret pg n_math_bits_Len32 #[v1] fun v2 => Q v2) (Ret pg n_math_bits_Len64 #[a0] fun v3 => Q v3)
theorem math_bits_Len_ok {Q : Cont} {a0 : Value} {w : World} (H : math_bits_Len Q a0 w) : Ret pg n_math_bits_Len #[a0] Q w :=
  fn_sound (args := [a0]) follows_pg Try.func80 (by kernel_rfl) (by kernel_rfl) (by kernel_rfl) ((fun (E : Env) (w : World) (H : math_bits_Len Q (E 0) w) => cast_of (by kernel_rfl) H : ∀ (E : Env) (w : World), math_bits_Len Q (E 0) w → swp pg Try.f80.ntmps (bodyOf Try.f80) (retW pg Try.f80.results Q) E w) (argE [a0]) w H)

/-- F116 cmp.isNaN[string](x) -/
def cmp_isNaN_string (Q : Cont) (a0 : Value) : World → Prop :=
  bo .neq 9 a0 a0 fun v1 => Q v1
theorem cmp_isNaN_string_ok {Q : Cont} {a0 : Value} {w : World} (H : cmp_isNaN_string Q a0 w) : Ret pg n_cmp_isNaN_string #[a0] Q w :=
  fn_sound (args := [a0]) follows_pg Try.func116 (by kernel_rfl) (by kernel_rfl) (by kernel_rfl) ((fun (E : Env) (w : World) (H : cmp_isNaN_string Q (E 0) w) => cast_of (by kernel_rfl) H : ∀ (E : Env) (w : World), cmp_isNaN_string Q (E 0) w → swp pg Try.f116.ntmps (bodyOf Try.f116) (retW pg Try.f116.results Q) E w) (argE [a0]) w H)

/-- F96 cmp.Less[string](x, y) -/
def cmp_Less_string (Q : Cont) (a0 a1 : Value) : World → Prop :=
  Ret pg n_cmp_isNaN_string #[a0] fun v1 => iteW v1 (Ret pg n_cmp_isNaN_string #[a1] fun v2 => uo .not v2 fun v3 => iteW v3 (Q (.bool true)) (bo .lss 9 a0 a1 fun v4 => Q v4)) (bo .lss 9 a0 a1 fun v5 => Q v5)
theorem cmp_Less_string_ok {Q : Cont} {a0 a1 : Value} {w : World} (H : cmp_Less_string Q a0 a1 w) : Ret pg n_cmp_Less_string #[a0, a1] Q w :=
  fn_sound (args := [a0, a1]) follows_pg Try.func96 (by kernel_rfl) (by kernel_rfl) (by kernel_rfl) ((fun (E : Env) (w : World) (H : cmp_Less_string Q (E 0) (E 1) w) => cast_of (by kernel_rfl) H : ∀ (E : Env) (w : World), cmp_Less_string Q (E 0) (E 1) w → swp pg Try.f96.ntmps (bodyOf Try.f96) (retW pg Try.f96.results Q) E w) (argE [a0, a1]) w H)

def slices_insertionSortOrdered_string_j2 (_Q : Cont) (nx0 : Value → Value → Value → Value → World → Prop) (t0_data t1_a t2_b t6_i : Value) : World → Prop :=
  bo .add 3 t6_i (.int .i64 1) fun v1 => nx0 t0_data t1_a t2_b v1
def slices_insertionSortOrdered_string_j4 (_Q : Cont) (_nx0 : Value → Value → Value → Value → World → Prop) (nx1 : Value → Value → Value → Value → Value → World → Prop) (t0_data t1_a t2_b t6_i t7_j : Value) : World → Prop :=
  (fun w0 => boq .sub 3 t7_j (.int .i64 1) (fun v2 => boq .sub 3 t7_j (.int .i64 1) (fun v3 => iaq 30 t0_data v3 (fun v4 => ldq 9 v4 (fun v5 => iaq 30 t0_data t7_j (fun v6 => ldq 9 v6 (fun v7 => iaq 30 t0_data t7_j (fun v8 => st 9 v8 v5 (fun _ w1 => (boq .sub 3 t7_j (.int .i64 1) (fun v => v = v2) w1) ∧ iaq 30 t0_data v2 (fun v9 => st 9 v9 v7 (fun _ w2 => (bo .sub 3 t7_j (.int .i64 1) fun v10 => nx1 t0_data t1_a t2_b t6_i v10) w2) w1) w1) (drw w0)) (drw w0)) (drw w0)) (drw w0)) (drw w0)) (drw w0)) (drw w0)) (drw w0))
def slices_insertionSortOrdered_string_j5 (Q : Cont) (nx0 : Value → Value → Value → Value → World → Prop) (nx1 : Value → Value → Value → Value → Value → World → Prop) (t0_data t1_a t2_b t6_i t7_j t30 : Value) : World → Prop :=
  iteW t30 (slices_insertionSortOrdered_string_j4 Q nx0 nx1 t0_data t1_a t2_b t6_i t7_j) (slices_insertionSortOrdered_string_j2 Q nx0 t0_data t1_a t2_b t6_i)
def slices_insertionSortOrdered_string_l1b (Q : Cont) (nx0 : Value → Value → Value → Value → World → Prop) (nx1 : Value → Value → Value → Value → Value → World → Prop) (t0_data t1_a t2_b t6_i t7_j : Value) : World → Prop :=
  (fun w0 => boq .gtr 3 t7_j t1_a (fun v11 => condW v11 (iaq 30 t0_data t7_j (fun v12 => ldq 9 v12 (fun v13 => boq .sub 3 t7_j (.int .i64 1) (fun v14 => iaq 30 t0_data v14 (fun v15 => ldq 9 v15 (fun v16 => Ret pg n_cmp_Less_string #[v13, v16] (fun v17 w1 => (slices_insertionSortOrdered_string_j5 Q nx0 nx1 t0_data t1_a t2_b t6_i t7_j v17) w1) (drw w0)) (drw w0)) (drw w0)) (drw w0)) (drw w0)) (drw w0)) ((slices_insertionSortOrdered_string_j5 Q nx0 nx1 t0_data t1_a t2_b t6_i t7_j (.bool false)) (drw w0))) (drw w0))
def slices_insertionSortOrdered_string_l1 (Q : Cont) (nx0 : Value → Value → Value → Value → World → Prop) (t0_data t1_a t2_b t6_i t7_j : Value) : World → Prop :=
  LoopW (fun (nx : Value × Value × Value × Value × Value → World → Prop) (s : Value × Value × Value × Value × Value) => slices_insertionSortOrdered_string_l1b Q nx0 (fun x0 x1 x2 x3 x4 => nx (x0, x1, x2, x3, x4)) s.1 s.2.1 s.2.2.1 s.2.2.2.1 s.2.2.2.2) (t0_data, t1_a, t2_b, t6_i, t7_j)
def slices_insertionSortOrdered_string_j3 (Q : Cont) (nx0 : Value → Value → Value → Value → World → Prop) (t0_data t1_a t2_b t6_i t7_j : Value) : World → Prop :=
  slices_insertionSortOrdered_string_l1 Q nx0 t0_data t1_a t2_b t6_i t7_j
def slices_insertionSortOrdered_string_j1 (Q : Cont) (nx0 : Value → Value → Value → Value → World → Prop) (t0_data t1_a t2_b t6_i : Value) : World → Prop :=
  slices_insertionSortOrdered_string_j3 Q nx0 t0_data t1_a t2_b t6_i t6_i
def slices_insertionSortOrdered_string_l0b (Q : Cont) (nx0 : Value → Value → Value → Value → World → Prop) (t0_data t1_a t2_b t6_i : Value) : World → Prop :=
  bo .lss 3 t6_i t2_b fun v18 => iteW v18 (slices_insertionSortOrdered_string_j1 Q nx0 t0_data t1_a t2_b t6_i) (Q (.tuple #[]))
def slices_insertionSortOrdered_string_l0 (Q : Cont) (t0_data t1_a t2_b t6_i : Value) : World → Prop :=
  LoopW (fun (nx : Value × Value × Value × Value → World → Prop) (s : Value × Value × Value × Value) => slices_insertionSortOrdered_string_l0b Q (fun x0 x1 x2 x3 => nx (x0, x1, x2, x3)) s.1 s.2.1 s.2.2.1 s.2.2.2) (t0_data, t1_a, t2_b, t6_i)
def slices_insertionSortOrdered_string_j0 (Q : Cont) (t0_data t1_a t2_b t6_i : Value) : World → Prop :=
  slices_insertionSortOrdered_string_l0 Q t0_data t1_a t2_b t6_i
/-- F90 slices.insertionSortOrdered[string](data, a, b) -/
def slices_insertionSortOrdered_string (Q : Cont) (a0 a1 a2 : Value) : World → Prop :=
  bo .add 3 a1 (.int .i64 1) fun v19 => slices_insertionSortOrdered_string_j0 Q a0 a1 a2 v19
theorem slices_insertionSortOrdered_string_ok {Q : Cont} {a0 a1 a2 : Value} {w : World} (H : slices_insertionSortOrdered_string Q a0 a1 a2 w) : Ret pg n_slices_insertionSortOrdered_string #[a0, a1, a2] Q w :=
  fn_sound (args := [a0, a1, a2]) follows_pg Try.func90 (by kernel_rfl) (by kernel_rfl) (by kernel_rfl) ((fun (E : Env) (w : World) (H : slices_insertionSortOrdered_string Q (E 0) (E 1) (E 2) w) => swp_join (fun (E : Env) (w : World) => slices_insertionSortOrdered_string_j0 Q (E 0) (E 1) (E 2) (E 6) w) (fun E w H => swp_block (swp_loop (fun (E : Env) => (E 0, E 1, E 2, E 6)) _ (fun nx0 E w H => swp_join (fun (E : Env) (w : World) => slices_insertionSortOrdered_string_j1 Q (fun x0 x1 x2 x3 => nx0 (x0, x1, x2, x3)) (E 0) (E 1) (E 2) (E 6) w) (fun E w H => swp_join (fun (E : Env) (w : World) => slices_insertionSortOrdered_string_j2 Q (fun x0 x1 x2 x3 => nx0 (x0, x1, x2, x3)) (E 0) (E 1) (E 2) (E 6) w) (fun E w H => cast_of (by kernel_rfl) H) (swp_block (swp_join (fun (E : Env) (w : World) => slices_insertionSortOrdered_string_j3 Q (fun x0 x1 x2 x3 => nx0 (x0, x1, x2, x3)) (E 0) (E 1) (E 2) (E 6) (E 7) w) (fun E w H => swp_block (swp_loop (fun (E : Env) => (E 0, E 1, E 2, E 6, E 7)) _ (fun nx1 E w H => swp_join (fun (E : Env) (w : World) => slices_insertionSortOrdered_string_j4 Q (fun x0 x1 x2 x3 => nx0 (x0, x1, x2, x3)) (fun x0 x1 x2 x3 x4 => nx1 (x0, x1, x2, x3, x4)) (E 0) (E 1) (E 2) (E 6) (E 7) w) (fun E w H => cast_of (by kernel_rfl) H) (swp_join (fun (E : Env) (w : World) => slices_insertionSortOrdered_string_j5 Q (fun x0 x1 x2 x3 => nx0 (x0, x1, x2, x3)) (fun x0 x1 x2 x3 x4 => nx1 (x0, x1, x2, x3, x4)) (E 0) (E 1) (E 2) (E 6) (E 7) (E 30) w) (fun E w H => cast_of (by kernel_rfl) H) (cast_of (by kernel_rfl) H))) H)) (cast_of (by kernel_rfl) H)))) (cast_of (by kernel_rfl) H)) H)) (cast_of (by kernel_rfl) H) : ∀ (E : Env) (w : World), slices_insertionSortOrdered_string Q (E 0) (E 1) (E 2) w → swp pg Try.f90.ntmps (bodyOf Try.f90) (retW pg Try.f90.results Q) E w) (argE [a0, a1, a2]) w H)

def slices_pdqsortOrdered_string_j9 (_Q : Cont) (nx0 : Value → Value → Value → Value → Value → Value → World → Prop) (t0_data t1_a t2_b t3_limit t10_length t11_pivot : Value) : World → Prop :=
  Ret pg n_slices_partitionOrdered_string #[t0_data, t1_a, t2_b, t11_pivot] fun v1 => ex v1 0 fun v2 => ex v1 1 fun v3 => bo .sub 3 v2 t1_a fun v4 => bo .sub 3 t2_b v2 fun v5 => bo .quo 3 t10_length (.int .i64 8) fun v6 => bo .lss 3 v4 v5 fun v7 => iteW v7 (bo .geq 3 v4 v6 fun v8 => Ret pg n_slices_pdqsortOrdered_string #[t0_data, t1_a, v2, t3_limit] fun _ => bo .add 3 v2 (.int .i64 1) fun v10 => nx0 t0_data v10 t2_b t3_limit v8 v3) (bo .geq 3 v5 v6 fun v11 => bo .add 3 v2 (.int .i64 1) fun v12 => Ret pg n_slices_pdqsortOrdered_string #[t0_data, v12, t2_b, t3_limit] fun _ => nx0 t0_data t1_a v2 t3_limit v11 v3)
def slices_pdqsortOrdered_string_j10 (Q : Cont) (nx0 : Value → Value → Value → Value → Value → Value → World → Prop) (t0_data t1_a t2_b t3_limit t8_wasBalanced t9_wasPartitioned t10_length t11_pivot t87 : Value) : World → Prop :=
  iteW t87 (Ret pg n_slices_partitionEqualOrdered_string #[t0_data, t1_a, t2_b, t11_pivot] fun v14 => nx0 t0_data v14 t2_b t3_limit t8_wasBalanced t9_wasPartitioned) (slices_pdqsortOrdered_string_j9 Q nx0 t0_data t1_a t2_b t3_limit t10_length t11_pivot)
def slices_pdqsortOrdered_string_j8 (Q : Cont) (nx0 : Value → Value → Value → Value → Value → Value → World → Prop) (t0_data t1_a t2_b t3_limit t8_wasBalanced t9_wasPartitioned t10_length t11_pivot : Value) : World → Prop :=
  (fun w0 => boq .gtr 3 t1_a (.int .i64 0) (fun v15 => condW v15 (boq .sub 3 t1_a (.int .i64 1) (fun v16 => iaq 30 t0_data v16 (fun v17 => ldq 9 v17 (fun v18 => iaq 30 t0_data t11_pivot (fun v19 => ldq 9 v19 (fun v20 => Ret pg n_cmp_Less_string #[v18, v20] (fun v21 w1 => uoq .not v21 (fun v22 => (slices_pdqsortOrdered_string_j10 Q nx0 t0_data t1_a t2_b t3_limit t8_wasBalanced t9_wasPartitioned t10_length t11_pivot v22) w1) w1) (drw w0)) (drw w0)) (drw w0)) (drw w0)) (drw w0)) (drw w0)) ((slices_pdqsortOrdered_string_j10 Q nx0 t0_data t1_a t2_b t3_limit t8_wasBalanced t9_wasPartitioned t10_length t11_pivot (.bool false)) (drw w0))) (drw w0))
def slices_pdqsortOrdered_string_j11 (Q : Cont) (nx0 : Value → Value → Value → Value → Value → Value → World → Prop) (t0_data t1_a t2_b t3_limit t8_wasBalanced t9_wasPartitioned t10_length t11_pivot t68 : Value) : World → Prop :=
  iteW t68 (Ret pg n_slices_partialInsertionSortOrdered_string #[t0_data, t1_a, t2_b] fun v23 => iteW v23 (Q (.tuple #[])) (slices_pdqsortOrdered_string_j8 Q nx0 t0_data t1_a t2_b t3_limit t8_wasBalanced t9_wasPartitioned t10_length t11_pivot)) (slices_pdqsortOrdered_string_j8 Q nx0 t0_data t1_a t2_b t3_limit t8_wasBalanced t9_wasPartitioned t10_length t11_pivot)
def slices_pdqsortOrdered_string_j7 (Q : Cont) (nx0 : Value → Value → Value → Value → Value → Value → World → Prop) (t0_data t1_a t2_b t3_limit t8_wasBalanced t9_wasPartitioned t10_length t11_pivot t12_hint : Value) : World → Prop :=
  iteW t8_wasBalanced (iteW t9_wasPartitioned (bo .eql 174 t12_hint (.int .i64 1) fun v24 => slices_pdqsortOrdered_string_j11 Q nx0 t0_data t1_a t2_b t3_limit t8_wasBalanced t9_wasPartitioned t10_length t11_pivot v24) (slices_pdqsortOrdered_string_j11 Q nx0 t0_data t1_a t2_b t3_limit t8_wasBalanced t9_wasPartitioned t10_length t11_pivot (.bool false))) (slices_pdqsortOrdered_string_j11 Q nx0 t0_data t1_a t2_b t3_limit t8_wasBalanced t9_wasPartitioned t10_length t11_pivot (.bool false))
def slices_pdqsortOrdered_string_j6 (Q : Cont) (nx0 : Value → Value → Value → Value → Value → Value → World → Prop) (t0_data t1_a t2_b t3_limit t8_wasBalanced t9_wasPartitioned t10_length t11_pivot t12_hint : Value) : World → Prop :=
  bo .eql 174 t12_hint (.int .i64 2) fun v25 => iteW v25 (Ret pg n_slices_reverseRangeOrdered_string #[t0_data, t1_a, t2_b] fun _ => bo .sub 3 t2_b (.int .i64 1) fun v27 => bo .sub 3 t11_pivot t1_a fun v28 => bo .sub 3 v27 v28 fun v29 => slices_pdqsortOrdered_string_j7 Q nx0 t0_data t1_a t2_b t3_limit t8_wasBalanced t9_wasPartitioned t10_length v29 (.int .i64 1)) (slices_pdqsortOrdered_string_j7 Q nx0 t0_data t1_a t2_b t3_limit t8_wasBalanced t9_wasPartitioned t10_length t11_pivot t12_hint)
def slices_pdqsortOrdered_string_j5 (Q : Cont) (nx0 : Value → Value → Value → Value → Value → Value → World → Prop) (t0_data t1_a t2_b t3_limit t8_wasBalanced t9_wasPartitioned t10_length : Value) : World → Prop :=
  Ret pg n_slices_choosePivotOrdered_string #[t0_data, t1_a, t2_b] fun v30 => ex v30 0 fun v31 => ex v30 1 fun v32 => slices_pdqsortOrdered_string_j6 Q nx0 t0_data t1_a t2_b t3_limit t8_wasBalanced t9_wasPartitioned t10_length v31 v32
def slices_pdqsortOrdered_string_j4 (Q : Cont) (nx0 : Value → Value → Value → Value → Value → Value → World → Prop) (t0_data t1_a t2_b t3_limit t8_wasBalanced t9_wasPartitioned t10_length : Value) : World → Prop :=
  uo .not t8_wasBalanced fun v33 => iteW v33 (Ret pg n_slices_breakPatternsOrdered_string #[t0_data, t1_a, t2_b] fun _ => bo .sub 3 t3_limit (.int .i64 1) fun v35 => slices_pdqsortOrdered_string_j5 Q nx0 t0_data t1_a t2_b v35 t8_wasBalanced t9_wasPartitioned t10_length) (slices_pdqsortOrdered_string_j5 Q nx0 t0_data t1_a t2_b t3_limit t8_wasBalanced t9_wasPartitioned t10_length)
def slices_pdqsortOrdered_string_j3 (Q : Cont) (nx0 : Value → Value → Value → Value → Value → Value → World → Prop) (t0_data t1_a t2_b t3_limit t8_wasBalanced t9_wasPartitioned t10_length : Value) : World → Prop :=
  bo .eql 3 t3_limit (.int .i64 0) fun v36 => iteW v36 (Ret pg n_slices_heapSortOrdered_string #[t0_data, t1_a, t2_b] fun _ => Q (.tuple #[])) (slices_pdqsortOrdered_string_j4 Q nx0 t0_data t1_a t2_b t3_limit t8_wasBalanced t9_wasPartitioned t10_length)
def slices_pdqsortOrdered_string_j2 (Q : Cont) (nx0 : Value → Value → Value → Value → Value → Value → World → Prop) (t0_data t1_a t2_b t3_limit t8_wasBalanced t9_wasPartitioned t10_length : Value) : World → Prop :=
  bo .leq 3 t10_length (.int .i64 12) fun v38 => iteW v38 (Ret pg n_slices_insertionSortOrdered_string #[t0_data, t1_a, t2_b] fun _ => Q (.tuple #[])) (slices_pdqsortOrdered_string_j3 Q nx0 t0_data t1_a t2_b t3_limit t8_wasBalanced t9_wasPartitioned t10_length)
def slices_pdqsortOrdered_string_l0b (Q : Cont) (nx0 : Value → Value → Value → Value → Value → Value → World → Prop) (t0_data t1_a t2_b t3_limit t8_wasBalanced t9_wasPartitioned : Value) : World → Prop :=
  bo .sub 3 t2_b t1_a fun v40 => slices_pdqsortOrdered_string_j2 Q nx0 t0_data t1_a t2_b t3_limit t8_wasBalanced t9_wasPartitioned v40
def slices_pdqsortOrdered_string_l0 (Q : Cont) (t0_data t1_a t2_b t3_limit t8_wasBalanced t9_wasPartitioned : Value) : World → Prop :=
  LoopW (fun (nx : Value × Value × Value × Value × Value × Value → World → Prop) (s : Value × Value × Value × Value × Value × Value) => slices_pdqsortOrdered_string_l0b Q (fun x0 x1 x2 x3 x4 x5 => nx (x0, x1, x2, x3, x4, x5)) s.1 s.2.1 s.2.2.1 s.2.2.2.1 s.2.2.2.2.1 s.2.2.2.2.2) (t0_data, t1_a, t2_b, t3_limit, t8_wasBalanced, t9_wasPartitioned)
def slices_pdqsortOrdered_string_j1 (Q : Cont) (t0_data t1_a t2_b t3_limit t8_wasBalanced t9_wasPartitioned : Value) : World → Prop :=
  slices_pdqsortOrdered_string_l0 Q t0_data t1_a t2_b t3_limit t8_wasBalanced t9_wasPartitioned
def slices_pdqsortOrdered_string_j0 (Q : Cont) (t0_data t1_a t2_b t3_limit t8_wasBalanced : Value) : World → Prop :=
  slices_pdqsortOrdered_string_j1 Q t0_data t1_a t2_b t3_limit t8_wasBalanced (.bool true)
/-- F79 slices.pdqsortOrdered[string](data, a, b, limit) -/
def slices_pdqsortOrdered_string (Q : Cont) (a0 a1 a2 a3 : Value) : World → Prop :=
  slices_pdqsortOrdered_string_j0 Q a0 a1 a2 a3 (.bool true)
theorem slices_pdqsortOrdered_string_ok {Q : Cont} {a0 a1 a2 a3 : Value} {w : World} (H : slices_pdqsortOrdered_string Q a0 a1 a2 a3 w) : Ret pg n_slices_pdqsortOrdered_string #[a0, a1, a2, a3] Q w :=
  fn_sound (args := [a0, a1, a2, a3]) follows_pg Try.func79 (by kernel_rfl) (by kernel_rfl) (by kernel_rfl) ((fun (E : Env) (w : World) (H : slices_pdqsortOrdered_string Q (E 0) (E 1) (E 2) (E 3) w) => swp_join (fun (E : Env) (w : World) => slices_pdqsortOrdered_string_j0 Q (E 0) (E 1) (E 2) (E 3) (E 8) w) (fun E w H => swp_join (fun (E : Env) (w : World) => slices_pdqsortOrdered_string_j1 Q (E 0) (E 1) (E 2) (E 3) (E 8) (E 9) w) (fun E w H => swp_block (swp_loop (fun (E : Env) => (E 0, E 1, E 2, E 3, E 8, E 9)) _ (fun nx0 E w H => swp_block (swp_join (fun (E : Env) (w : World) => slices_pdqsortOrdered_string_j2 Q (fun x0 x1 x2 x3 x4 x5 => nx0 (x0, x1, x2, x3, x4, x5)) (E 0) (E 1) (E 2) (E 3) (E 8) (E 9) (E 10) w) (fun E w H => swp_join (fun (E : Env) (w : World) => slices_pdqsortOrdered_string_j3 Q (fun x0 x1 x2 x3 x4 x5 => nx0 (x0, x1, x2, x3, x4, x5)) (E 0) (E 1) (E 2) (E 3) (E 8) (E 9) (E 10) w) (fun E w H => swp_join (fun (E : Env) (w : World) => slices_pdqsortOrdered_string_j4 Q (fun x0 x1 x2 x3 x4 x5 => nx0 (x0, x1, x2, x3, x4, x5)) (E 0) (E 1) (E 2) (E 3) (E 8) (E 9) (E 10) w) (fun E w H => swp_join (fun (E : Env) (w : World) => slices_pdqsortOrdered_string_j5 Q (fun x0 x1 x2 x3 x4 x5 => nx0 (x0, x1, x2, x3, x4, x5)) (E 0) (E 1) (E 2) (E 3) (E 8) (E 9) (E 10) w) (fun E w H => swp_join (fun (E : Env) (w : World) => slices_pdqsortOrdered_string_j6 Q (fun x0 x1 x2 x3 x4 x5 => nx0 (x0, x1, x2, x3, x4, x5)) (E 0) (E 1) (E 2) (E 3) (E 8) (E 9) (E 10) (E 11) (E 12) w) (fun E w H => swp_join (fun (E : Env) (w : World) => slices_pdqsortOrdered_string_j7 Q (fun x0 x1 x2 x3 x4 x5 => nx0 (x0, x1, x2, x3, x4, x5)) (E 0) (E 1) (E 2) (E 3) (E 8) (E 9) (E 10) (E 11) (E 12) w) (fun E w H => swp_join (fun (E : Env) (w : World) => slices_pdqsortOrdered_string_j8 Q (fun x0 x1 x2 x3 x4 x5 => nx0 (x0, x1, x2, x3, x4, x5)) (E 0) (E 1) (E 2) (E 3) (E 8) (E 9) (E 10) (E 11) w) (fun E w H => swp_join (fun (E : Env) (w : World) => slices_pdqsortOrdered_string_j9 Q (fun x0 x1 x2 x3 x4 x5 => nx0 (x0, x1, x2, x3, x4, x5)) (E 0) (E 1) (E 2) (E 3) (E 10) (E 11) w) (fun E w H => cast_of (by kernel_rfl) H) (swp_join (fun (E : Env) (w : World) => slices_pdqsortOrdered_string_j10 Q (fun x0 x1 x2 x3 x4 x5 => nx0 (x0, x1, x2, x3, x4, x5)) (E 0) (E 1) (E 2) (E 3) (E 8) (E 9) (E 10) (E 11) (E 87) w) (fun E w H => cast_of (by kernel_rfl) H) (cast_of (by kernel_rfl) H))) (swp_join (fun (E : Env) (w : World) => slices_pdqsortOrdered_string_j11 Q (fun x0 x1 x2 x3 x4 x5 => nx0 (x0, x1, x2, x3, x4, x5)) (E 0) (E 1) (E 2) (E 3) (E 8) (E 9) (E 10) (E 11) (E 68) w) (fun E w H => cast_of (by kernel_rfl) H) (cast_of (by kernel_rfl) H))) (cast_of (by kernel_rfl) H)) (cast_of (by kernel_rfl) H)) (cast_of (by kernel_rfl) H)) (cast_of (by kernel_rfl) H)) (cast_of (by kernel_rfl) H)) (cast_of (by kernel_rfl) H))) H)) (cast_of (by kernel_rfl) H)) (cast_of (by kernel_rfl) H) : ∀ (E : Env) (w : World), slices_pdqsortOrdered_string Q (E 0) (E 1) (E 2) (E 3) w → swp pg Try.f79.ntmps (bodyOf Try.f79) (retW pg Try.f79.results Q) E w) (argE [a0, a1, a2, a3]) w H)

/-- F60 slices.Sort[[]string,string](x) -/
def slices_Sort_string_string (Q : Cont) (a0 : Value) : World → Prop :=
  b_len #[30] 3 #[a0] fun v1 => cv 3 161 v1 fun v2 => Ret pg n_math_bits_Len #[v2] fun v3 => Ret pg n_slices_pdqsortOrdered_string #[a0, (.int .i64 0), v1, v3] fun _ => Q (.tuple #[])
theorem slices_Sort_string_string_ok {Q : Cont} {a0 : Value} {w : World} (H : slices_Sort_string_string Q a0 w) : Ret pg n_slices_Sort_string_string #[a0] Q w :=
  fn_sound (args := [a0]) follows_pg Try.func60 (by kernel_rfl) (by kernel_rfl) (by kernel_rfl) ((fun (E : Env) (w : World) (H : slices_Sort_string_string Q (E 0) w) => cast_of (by kernel_rfl) H : ∀ (E : Env) (w : World), slices_Sort_string_string Q (E 0) w → swp pg Try.f60.ntmps (bodyOf Try.f60) (retW pg Try.f60.results Q) E w) (argE [a0]) w H)

def slices_Compact_string_string_j2 (Q : Cont) (t0_s : Value) : World → Prop :=
  Q t0_s
def slices_Compact_string_string_j5 (_Q : Cont) (nx0 : Value → Value → World → Prop) (t0_s t3_k : Value) : World → Prop :=
  bo .add 3 t3_k (.int .i64 1) fun v1 => nx0 t0_s v1
def slices_Compact_string_string_j8 (Q : Cont) (_nx0 : Value → Value → World → Prop) (t0_s t3_k : Value) : World → Prop :=
  sl 30 t0_s (some t3_k) none none fun v2 => b_clear #[30] 0 #[v2] fun _ => sl 30 t0_s none (some t3_k) none fun v3 => Q v3
def slices_Compact_string_string_j11 (_Q : Cont) (_nx0 : Value → Value → World → Prop) (nx1 : Value → Value → Value → Value → World → Prop) (t0_s t3_k t4_s2 t5_k2 : Value) : World → Prop :=
  bo .add 3 t5_k2 (.int .i64 1) fun v4 => nx1 t0_s t3_k t4_s2 v4
def slices_Compact_string_string_j10 (Q : Cont) (nx0 : Value → Value → World → Prop) (nx1 : Value → Value → Value → Value → World → Prop) (t0_s t3_k t4_s2 t5_k2 : Value) : World → Prop :=
  (fun w0 => iaq 30 t4_s2 t5_k2 (fun v5 => ldq 9 v5 (fun v6 => boq .sub 3 t5_k2 (.int .i64 1) (fun v7 => iaq 30 t4_s2 v7 (fun v8 => ldq 9 v8 (fun v9 => boq .neq 9 v6 v9 (fun v10 => (iteW v10 (ia 30 t4_s2 t5_k2 fun v11 => ld 9 v11 fun v12 => ia 30 t0_s t3_k fun v13 => st 9 v13 v12 fun _ => bo .add 3 t3_k (.int .i64 1) fun v14 => slices_Compact_string_string_j11 Q nx0 nx1 t0_s v14 t4_s2 t5_k2) (slices_Compact_string_string_j11 Q nx0 nx1 t0_s t3_k t4_s2 t5_k2)) (drw w0)) (drw w0)) (drw w0)) (drw w0)) (drw w0)) (drw w0)) (drw w0))
def slices_Compact_string_string_l1b (Q : Cont) (nx0 : Value → Value → World → Prop) (nx1 : Value → Value → Value → Value → World → Prop) (t0_s t3_k t4_s2 t5_k2 : Value) : World → Prop :=
  b_len #[30] 3 #[t4_s2] fun v15 => bo .lss 3 t5_k2 v15 fun v16 => iteW v16 (slices_Compact_string_string_j10 Q nx0 nx1 t0_s t3_k t4_s2 t5_k2) (slices_Compact_string_string_j8 Q nx0 t0_s t3_k)
def slices_Compact_string_string_l1 (Q : Cont) (nx0 : Value → Value → World → Prop) (t0_s t3_k t4_s2 t5_k2 : Value) : World → Prop :=
  LoopW (fun (nx : Value × Value × Value × Value → World → Prop) (s : Value × Value × Value × Value) => slices_Compact_string_string_l1b Q nx0 (fun x0 x1 x2 x3 => nx (x0, x1, x2, x3)) s.1 s.2.1 s.2.2.1 s.2.2.2) (t0_s, t3_k, t4_s2, t5_k2)
def slices_Compact_string_string_j9 (Q : Cont) (nx0 : Value → Value → World → Prop) (t0_s t3_k t4_s2 t5_k2 : Value) : World → Prop :=
  slices_Compact_string_string_l1 Q nx0 t0_s t3_k t4_s2 t5_k2
def slices_Compact_string_string_j7 (Q : Cont) (nx0 : Value → Value → World → Prop) (t0_s t3_k t4_s2 : Value) : World → Prop :=
  slices_Compact_string_string_j9 Q nx0 t0_s t3_k t4_s2 (.int .i64 1)
def slices_Compact_string_string_c0 (Q : Cont) (nx0 : Value → Value → World → Prop) (t0_s t3_k : Value) : World → Prop :=
  sl 30 t0_s (some t3_k) none none fun v17 => slices_Compact_string_string_j7 Q nx0 t0_s t3_k v17
def slices_Compact_string_string_j6 (Q : Cont) (nx0 : Value → Value → World → Prop) (t0_s t3_k t25 : Value) : World → Prop :=
  iteW t25 (slices_Compact_string_string_c0 Q nx0 t0_s t3_k) (slices_Compact_string_string_j5 Q nx0 t0_s t3_k)
def slices_Compact_string_string_j4 (Q : Cont) (nx0 : Value → Value → World → Prop) (t0_s t3_k : Value) : World → Prop :=
  (fun w0 => iaq 30 t0_s t3_k (fun v18 => ldq 9 v18 (fun v19 => boq .sub 3 t3_k (.int .i64 1) (fun v20 => iaq 30 t0_s v20 (fun v21 => ldq 9 v21 (fun v22 => boq .eql 9 v19 v22 (fun v23 => (slices_Compact_string_string_j6 Q nx0 t0_s t3_k v23) (drw w0)) (drw w0)) (drw w0)) (drw w0)) (drw w0)) (drw w0)) (drw w0))
def slices_Compact_string_string_l0b (Q : Cont) (nx0 : Value → Value → World → Prop) (t0_s t3_k : Value) : World → Prop :=
  b_len #[30] 3 #[t0_s] fun v24 => bo .lss 3 t3_k v24 fun v25 => iteW v25 (slices_Compact_string_string_j4 Q nx0 t0_s t3_k) (slices_Compact_string_string_j2 Q t0_s)
def slices_Compact_string_string_l0 (Q : Cont) (t0_s t3_k : Value) : World → Prop :=
  LoopW (fun (nx : Value × Value → World → Prop) (s : Value × Value) => slices_Compact_string_string_l0b Q (fun x0 x1 => nx (x0, x1)) s.1 s.2) (t0_s, t3_k)
def slices_Compact_string_string_j3 (Q : Cont) (t0_s t3_k : Value) : World → Prop :=
  slices_Compact_string_string_l0 Q t0_s t3_k
def slices_Compact_string_string_j1 (Q : Cont) (t0_s : Value) : World → Prop :=
  slices_Compact_string_string_j3 Q t0_s (.int .i64 1)
def slices_Compact_string_string_j0 (Q : Cont) (t0_s : Value) : World → Prop :=
  b_len #[30] 3 #[t0_s] fun v26 => bo .lss 3 v26 (.int .i64 2) fun v27 => iteW v27 (Q t0_s) (slices_Compact_string_string_j1 Q t0_s)
/-- F61 slices.Compact[[]string,string](s) -/
def slices_Compact_string_string (Q : Cont) (a0 : Value) : World → Prop :=
  slices_Compact_string_string_j0 Q a0
theorem slices_Compact_string_string_ok {Q : Cont} {a0 : Value} {w : World} (H : slices_Compact_string_string Q a0 w) : Ret pg n_slices_Compact_string_string #[a0] Q w :=
  fn_sound (args := [a0]) follows_pg Try.func61 (by kernel_rfl) (by kernel_rfl) (by kernel_rfl) ((fun (E : Env) (w : World) (H : slices_Compact_string_string Q (E 0) w) => swp_join (fun (E : Env) (w : World) => slices_Compact_string_string_j0 Q (E 0) w) (fun E w H => swp_join (fun (E : Env) (w : World) => slices_Compact_string_string_j1 Q (E 0) w) (fun E w H => swp_join (fun (E : Env) (w : World) => slices_Compact_string_string_j2 Q (E 0) w) (fun E w H => cast_of (by kernel_rfl) H) (swp_join (fun (E : Env) (w : World) => slices_Compact_string_string_j3 Q (E 0) (E 3) w) (fun E w H => swp_block (swp_loop (fun (E : Env) => (E 0, E 3)) _ (fun nx0 E w H => swp_join (fun (E : Env) (w : World) => slices_Compact_string_string_j4 Q (fun x0 x1 => nx0 (x0, x1)) (E 0) (E 3) w) (fun E w H => swp_join (fun (E : Env) (w : World) => slices_Compact_string_string_j5 Q (fun x0 x1 => nx0 (x0, x1)) (E 0) (E 3) w) (fun E w H => cast_of (by kernel_rfl) H) (swp_block (swp_join (fun (E : Env) (w : World) => slices_Compact_string_string_j6 Q (fun x0 x1 => nx0 (x0, x1)) (E 0) (E 3) (E 25) w) (fun E w H => swp_cond (by exact H) (fun H => swp_join (fun (E : Env) (w : World) => slices_Compact_string_string_j7 Q (fun x0 x1 => nx0 (x0, x1)) (E 0) (E 3) (E 4) w) (fun E w H => swp_join (fun (E : Env) (w : World) => slices_Compact_string_string_j8 Q (fun x0 x1 => nx0 (x0, x1)) (E 0) (E 3) w) (fun E w H => cast_of (by kernel_rfl) H) (swp_join (fun (E : Env) (w : World) => slices_Compact_string_string_j9 Q (fun x0 x1 => nx0 (x0, x1)) (E 0) (E 3) (E 4) (E 5) w) (fun E w H => swp_block (swp_loop (fun (E : Env) => (E 0, E 3, E 4, E 5)) _ (fun nx1 E w H => swp_join (fun (E : Env) (w : World) => slices_Compact_string_string_j10 Q (fun x0 x1 => nx0 (x0, x1)) (fun x0 x1 x2 x3 => nx1 (x0, x1, x2, x3)) (E 0) (E 3) (E 4) (E 5) w) (fun E w H => swp_join (fun (E : Env) (w : World) => slices_Compact_string_string_j11 Q (fun x0 x1 => nx0 (x0, x1)) (fun x0 x1 x2 x3 => nx1 (x0, x1, x2, x3)) (E 0) (E 3) (E 4) (E 5) w) (fun E w H => cast_of (by kernel_rfl) H) (cast_of (by kernel_rfl) H)) (cast_of (by kernel_rfl) H)) H)) (cast_of (by kernel_rfl) H))) (cast_of (by kernel_rfl) H)) (fun H => cast_of (by kernel_rfl) H)) (cast_of (by kernel_rfl) H)))) (cast_of (by kernel_rfl) H)) H)) (cast_of (by kernel_rfl) H))) (cast_of (by kernel_rfl) H)) (cast_of (by kernel_rfl) H) : ∀ (E : Env) (w : World), slices_Compact_string_string Q (E 0) w → swp pg Try.f61.ntmps (bodyOf Try.f61) (retW pg Try.f61.results Q) E w) (argE [a0]) w H)

def tags_Check_j3 (Q : Cont) : World → Prop :=
  Q (.int .i64 0)
def tags_Check_j7 (_Q : Cont) (nx0 : Value → Value → Value → Value → World → Prop) (t3_last t9 t10 t11 : Value) : World → Prop :=
  bo .add 3 t11 (.int .i64 1) fun v1 => nx0 t3_last t9 t10 v1
def tags_Check_j9 (Q : Cont) (nx0 : Value → Value → Value → Value → World → Prop) (t5_t t9 t10 t11 : Value) : World → Prop :=
  tags_Check_j7 Q nx0 t5_t t9 t10 t11
def tags_Check_j10 (Q : Cont) (nx0 : Value → Value → Value → Value → World → Prop) (t5_t t9 t10 t11 t22 : Value) : World → Prop :=
  iteW t22 (Q (.int .i64 30)) (tags_Check_j9 Q nx0 t5_t t9 t10 t11)
def tags_Check_j8 (Q : Cont) (nx0 : Value → Value → Value → Value → World → Prop) (t3_last t5_t t9 t10 t11 : Value) : World → Prop :=
  b_len #[9] 3 #[t5_t] fun v2 => bo .gtr 3 v2 (.int .i64 16) fun v3 => iteW v3 (tags_Check_j10 Q nx0 t5_t t9 t10 t11 (.bool true)) (bo .leq 9 t5_t t3_last fun v4 => tags_Check_j10 Q nx0 t5_t t9 t10 t11 v4)
def tags_Check_j6 (Q : Cont) (nx0 : Value → Value → Value → Value → World → Prop) (t3_last t9 t10 t11 : Value) : World → Prop :=
  ia 30 t9 t11 fun v5 => ld 9 v5 fun v6 => tags_Check_j8 Q nx0 t3_last v6 t9 t10 t11
def tags_Check_j5 (Q : Cont) (nx0 : Value → Value → Value → Value → World → Prop) (t3_last t9 t10 t11 t12 : Value) : World → Prop :=
  iteW t12 (tags_Check_j6 Q nx0 t3_last t9 t10 t11) (tags_Check_j3 Q)
def tags_Check_l0b (Q : Cont) (nx0 : Value → Value → Value → Value → World → Prop) (t3_last t9 t10 t11 : Value) : World → Prop :=
  bo .lss 3 t11 t10 fun v7 => tags_Check_j5 Q nx0 t3_last t9 t10 t11 v7
def tags_Check_l0 (Q : Cont) (t3_last t9 t10 t11 : Value) : World → Prop :=
  LoopW (fun (nx : Value × Value × Value × Value → World → Prop) (s : Value × Value × Value × Value) => tags_Check_l0b Q (fun x0 x1 x2 x3 => nx (x0, x1, x2, x3)) s.1 s.2.1 s.2.2.1 s.2.2.2) (t3_last, t9, t10, t11)
def tags_Check_j4 (Q : Cont) (t3_last t9 t10 t11 : Value) : World → Prop :=
  tags_Check_l0 Q t3_last t9 t10 t11
def tags_Check_j2 (Q : Cont) (t0_l t3_last : Value) : World → Prop :=
  b_len #[30] 3 #[t0_l] fun v8 => tags_Check_j4 Q t3_last t0_l v8 (.int .i64 0)
def tags_Check_j1 (Q : Cont) (t0_l : Value) : World → Prop :=
  tags_Check_j2 Q t0_l (.string ⟨#[]⟩)
def tags_Check_j0 (Q : Cont) (t0_l : Value) : World → Prop :=
  b_len #[30] 3 #[t0_l] fun v9 => bo .gtr 3 v9 (.int .i64 8) fun v10 => iteW v10 (Q (.int .i64 30)) (tags_Check_j1 Q t0_l)
/-- F36 lodestar/tags.Check(l) -/
def tags_Check (Q : Cont) (a0 : Value) : World → Prop :=
  tags_Check_j0 Q a0
theorem tags_Check_ok {Q : Cont} {a0 : Value} {w : World} (H : tags_Check Q a0 w) : Ret pg n_tags_Check #[a0] Q w :=
  fn_sound (args := [a0]) follows_pg Try.func36 (by kernel_rfl) (by kernel_rfl) (by kernel_rfl) ((fun (E : Env) (w : World) (H : tags_Check Q (E 0) w) => swp_join (fun (E : Env) (w : World) => tags_Check_j0 Q (E 0) w) (fun E w H => swp_join (fun (E : Env) (w : World) => tags_Check_j1 Q (E 0) w) (fun E w H => swp_join (fun (E : Env) (w : World) => tags_Check_j2 Q (E 0) (E 3) w) (fun E w H => swp_join (fun (E : Env) (w : World) => tags_Check_j3 Q w) (fun E w H => cast_of (by kernel_rfl) H) (swp_join (fun (E : Env) (w : World) => tags_Check_j4 Q (E 3) (E 9) (E 10) (E 11) w) (fun E w H => swp_block (swp_loop (fun (E : Env) => (E 3, E 9, E 10, E 11)) _ (fun nx0 E w H => swp_join (fun (E : Env) (w : World) => tags_Check_j5 Q (fun x0 x1 x2 x3 => nx0 (x0, x1, x2, x3)) (E 3) (E 9) (E 10) (E 11) (E 12) w) (fun E w H => swp_join (fun (E : Env) (w : World) => tags_Check_j6 Q (fun x0 x1 x2 x3 => nx0 (x0, x1, x2, x3)) (E 3) (E 9) (E 10) (E 11) w) (fun E w H => swp_join (fun (E : Env) (w : World) => tags_Check_j7 Q (fun x0 x1 x2 x3 => nx0 (x0, x1, x2, x3)) (E 3) (E 9) (E 10) (E 11) w) (fun E w H => cast_of (by kernel_rfl) H) (swp_block (swp_join (fun (E : Env) (w : World) => tags_Check_j8 Q (fun x0 x1 x2 x3 => nx0 (x0, x1, x2, x3)) (E 3) (E 5) (E 9) (E 10) (E 11) w) (fun E w H => swp_join (fun (E : Env) (w : World) => tags_Check_j9 Q (fun x0 x1 x2 x3 => nx0 (x0, x1, x2, x3)) (E 5) (E 9) (E 10) (E 11) w) (fun E w H => cast_of (by kernel_rfl) H) (swp_join (fun (E : Env) (w : World) => tags_Check_j10 Q (fun x0 x1 x2 x3 => nx0 (x0, x1, x2, x3)) (E 5) (E 9) (E 10) (E 11) (E 22) w) (fun E w H => cast_of (by kernel_rfl) H) (cast_of (by kernel_rfl) H))) (cast_of (by kernel_rfl) H)))) (cast_of (by kernel_rfl) H)) (cast_of (by kernel_rfl) H)) H)) (cast_of (by kernel_rfl) H))) (cast_of (by kernel_rfl) H)) (cast_of (by kernel_rfl) H)) (cast_of (by kernel_rfl) H) : ∀ (E : Env) (w : World), tags_Check Q (E 0) w → swp pg Try.f36.ntmps (bodyOf Try.f36) (retW pg Try.f36.results Q) E w) (argE [a0]) w H)

/-- F34 lodestar/tags.Sort(l) -/
def tags_Sort (Q : Cont) (a0 : Value) : World → Prop :=
  Ret pg n_slices_Clone_string_string #[a0] fun v1 => Ret pg n_slices_Sort_string_string #[v1] fun _ => Ret pg n_slices_Compact_string_string #[v1] fun v3 => Ret pg n_tags_Check #[v3] fun v4 => bo .neq 46 v4 (.int .i64 0) fun v5 => iteW v5 (Q (.tuple #[(.slice none 0 0), v4])) (Q (.tuple #[v3, (.int .i64 0)]))
theorem tags_Sort_ok {Q : Cont} {a0 : Value} {w : World} (H : tags_Sort Q a0 w) : Ret pg n_tags_Sort #[a0] Q w :=
  fn_sound (args := [a0]) follows_pg Try.func34 (by kernel_rfl) (by kernel_rfl) (by kernel_rfl) ((fun (E : Env) (w : World) (H : tags_Sort Q (E 0) w) => cast_of (by kernel_rfl) H : ∀ (E : Env) (w : World), tags_Sort Q (E 0) w → swp pg Try.f34.ntmps (bodyOf Try.f34) (retW pg Try.f34.results Q) E w) (argE [a0]) w H)

def lodestarref03_Same_j2 (Q : Cont) : World → Prop :=
  Q (.bool true)
def lodestarref03_Same_l0b (Q : Cont) (nx0 : Value → Value → Value → World → Prop) (t0_a t1_b t5_i : Value) : World → Prop :=
  b_len #[30] 3 #[t0_a] fun v1 => bo .lss 3 t5_i v1 fun v2 => iteW v2 ((fun w0 => iaq 30 t0_a t5_i (fun v3 => ldq 9 v3 (fun v4 => iaq 30 t1_b t5_i (fun v5 => ldq 9 v5 (fun v6 => boq .neq 9 v4 v6 (fun v7 => (iteW v7 (Q (.bool false)) (bo .add 3 t5_i (.int .i64 1) fun v8 => nx0 t0_a t1_b v8)) (drw w0)) (drw w0)) (drw w0)) (drw w0)) (drw w0)) (drw w0))) (lodestarref03_Same_j2 Q)
def lodestarref03_Same_l0 (Q : Cont) (t0_a t1_b t5_i : Value) : World → Prop :=
  LoopW (fun (nx : Value × Value × Value → World → Prop) (s : Value × Value × Value) => lodestarref03_Same_l0b Q (fun x0 x1 x2 => nx (x0, x1, x2)) s.1 s.2.1 s.2.2) (t0_a, t1_b, t5_i)
def lodestarref03_Same_j3 (Q : Cont) (t0_a t1_b t5_i : Value) : World → Prop :=
  lodestarref03_Same_l0 Q t0_a t1_b t5_i
def lodestarref03_Same_j1 (Q : Cont) (t0_a t1_b : Value) : World → Prop :=
  lodestarref03_Same_j3 Q t0_a t1_b (.int .i64 0)
def lodestarref03_Same_j0 (Q : Cont) (t0_a t1_b : Value) : World → Prop :=
  b_len #[30] 3 #[t0_a] fun v9 => b_len #[30] 3 #[t1_b] fun v10 => bo .neq 3 v9 v10 fun v11 => iteW v11 (Q (.bool false)) (lodestarref03_Same_j1 Q t0_a t1_b)
/-- F35 lodestar/lodestarref03.Same(a, b) -/
def lodestarref03_Same (Q : Cont) (a0 a1 : Value) : World → Prop :=
  lodestarref03_Same_j0 Q a0 a1
theorem lodestarref03_Same_ok {Q : Cont} {a0 a1 : Value} {w : World} (H : lodestarref03_Same Q a0 a1 w) : Ret pg n_lodestarref03_Same #[a0, a1] Q w :=
  fn_sound (args := [a0, a1]) follows_pg Try.func35 (by kernel_rfl) (by kernel_rfl) (by kernel_rfl) ((fun (E : Env) (w : World) (H : lodestarref03_Same Q (E 0) (E 1) w) => swp_join (fun (E : Env) (w : World) => lodestarref03_Same_j0 Q (E 0) (E 1) w) (fun E w H => swp_join (fun (E : Env) (w : World) => lodestarref03_Same_j1 Q (E 0) (E 1) w) (fun E w H => swp_join (fun (E : Env) (w : World) => lodestarref03_Same_j2 Q w) (fun E w H => cast_of (by kernel_rfl) H) (swp_join (fun (E : Env) (w : World) => lodestarref03_Same_j3 Q (E 0) (E 1) (E 5) w) (fun E w H => swp_block (swp_loop (fun (E : Env) => (E 0, E 1, E 5)) _ (fun nx0 E w H => cast_of (by kernel_rfl) H) H)) (cast_of (by kernel_rfl) H))) (cast_of (by kernel_rfl) H)) (cast_of (by kernel_rfl) H) : ∀ (E : Env) (w : World), lodestarref03_Same Q (E 0) (E 1) w → swp pg Try.f35.ntmps (bodyOf Try.f35) (retW pg Try.f35.results Q) E w) (argE [a0, a1]) w H)

def slices_Index_string_string_j1 (Q : Cont) : World → Prop :=
  Q (.int .i64 (-1))
def slices_Index_string_string_l0b (Q : Cont) (nx0 : Value → Value → Value → Value → World → Prop) (t0_s t1_v t7 t8 : Value) : World → Prop :=
  bo .lss 3 t8 t7 fun v1 => iteW v1 (ia 30 t0_s t8 fun v2 => ld 9 v2 fun v3 => bo .eql 9 t1_v v3 fun v4 => iteW v4 (Q t8) (bo .add 3 t8 (.int .i64 1) fun v5 => nx0 t0_s t1_v t7 v5)) (slices_Index_string_string_j1 Q)
def slices_Index_string_string_l0 (Q : Cont) (t0_s t1_v t7 t8 : Value) : World → Prop :=
  LoopW (fun (nx : Value × Value × Value × Value → World → Prop) (s : Value × Value × Value × Value) => slices_Index_string_string_l0b Q (fun x0 x1 x2 x3 => nx (x0, x1, x2, x3)) s.1 s.2.1 s.2.2.1 s.2.2.2) (t0_s, t1_v, t7, t8)
def slices_Index_string_string_j2 (Q : Cont) (t0_s t1_v t7 t8 : Value) : World → Prop :=
  slices_Index_string_string_l0 Q t0_s t1_v t7 t8
def slices_Index_string_string_j0 (Q : Cont) (t0_s t1_v : Value) : World → Prop :=
  b_len #[30] 3 #[t0_s] fun v6 => slices_Index_string_string_j2 Q t0_s t1_v v6 (.int .i64 0)
/-- F62 slices.Index[[]string,string](s, v) -/
def slices_Index_string_string (Q : Cont) (a0 a1 : Value) : World → Prop :=
  slices_Index_string_string_j0 Q a0 a1
theorem slices_Index_string_string_ok {Q : Cont} {a0 a1 : Value} {w : World} (H : slices_Index_string_string Q a0 a1 w) : Ret pg n_slices_Index_string_string #[a0, a1] Q w :=
  fn_sound (args := [a0, a1]) follows_pg Try.func62 (by kernel_rfl) (by kernel_rfl) (by kernel_rfl) ((fun (E : Env) (w : World) (H : slices_Index_string_string Q (E 0) (E 1) w) => swp_join (fun (E : Env) (w : World) => slices_Index_string_string_j0 Q (E 0) (E 1) w) (fun E w H => swp_join (fun (E : Env) (w : World) => slices_Index_string_string_j1 Q w) (fun E w H => cast_of (by kernel_rfl) H) (swp_join (fun (E : Env) (w : World) => slices_Index_string_string_j2 Q (E 0) (E 1) (E 7) (E 8) w) (fun E w H => swp_block (swp_loop (fun (E : Env) => (E 0, E 1, E 7, E 8)) _ (fun nx0 E w H => cast_of (by kernel_rfl) H) H)) (cast_of (by kernel_rfl) H))) (cast_of (by kernel_rfl) H) : ∀ (E : Env) (w : World), slices_Index_string_string Q (E 0) (E 1) w → swp pg Try.f62.ntmps (bodyOf Try.f62) (retW pg Try.f62.results Q) E w) (argE [a0, a1]) w H)

/-- F38 slices.Contains[[]string,string](s, v) -/
def slices_Contains_string_string (Q : Cont) (a0 a1 : Value) : World → Prop :=
  Ret pg n_slices_Index_string_string #[a0, a1] fun v1 => bo .geq 3 v1 (.int .i64 0) fun v2 => Q v2
theorem slices_Contains_string_string_ok {Q : Cont} {a0 a1 : Value} {w : World} (H : slices_Contains_string_string Q a0 a1 w) : Ret pg n_slices_Contains_string_string #[a0, a1] Q w :=
  fn_sound (args := [a0, a1]) follows_pg Try.func38 (by kernel_rfl) (by kernel_rfl) (by kernel_rfl) ((fun (E : Env) (w : World) (H : slices_Contains_string_string Q (E 0) (E 1) w) => cast_of (by kernel_rfl) H : ∀ (E : Env) (w : World), slices_Contains_string_string Q (E 0) (E 1) w → swp pg Try.f38.ntmps (bodyOf Try.f38) (retW pg Try.f38.results Q) E w) (argE [a0, a1]) w H)

/-- F37 lodestar/tags.Match$1(t, ) -/
def tags_Match_1 (Q : Cont) (a0 a1 : Value) : World → Prop :=
  ld 30 a1 fun v1 => Ret pg n_slices_Contains_string_string #[v1, a0] fun v2 => Q v2
theorem tags_Match_1_ok {Q : Cont} {a0 a1 : Value} {w : World} (H : tags_Match_1 Q a0 a1 w) : Ret pg n_tags_Match_1 #[a0, a1] Q w :=
  fn_sound (args := [a0, a1]) follows_pg Try.func37 (by kernel_rfl) (by kernel_rfl) (by kernel_rfl) ((fun (E : Env) (w : World) (H : tags_Match_1 Q (E 0) (E 1) w) => cast_of (by kernel_rfl) H : ∀ (E : Env) (w : World), tags_Match_1 Q (E 0) (E 1) w → swp pg Try.f37.ntmps (bodyOf Try.f37) (retW pg Try.f37.results Q) E w) (argE [a0, a1]) w H)

/-- F39 lodestar/tags.Match$2(t, ) -/
def tags_Match_2 (Q : Cont) (a0 a1 : Value) : World → Prop :=
  ld 103 a1 fun v1 => callV v1 #[a0] fun v2 => uo .not v2 fun v3 => Q v3
theorem tags_Match_2_ok {Q : Cont} {a0 a1 : Value} {w : World} (H : tags_Match_2 Q a0 a1 w) : Ret pg n_tags_Match_2 #[a0, a1] Q w :=
  fn_sound (args := [a0, a1]) follows_pg Try.func39 (by kernel_rfl) (by kernel_rfl) (by kernel_rfl) ((fun (E : Env) (w : World) (H : tags_Match_2 Q (E 0) (E 1) w) => cast_of (by kernel_rfl) H : ∀ (E : Env) (w : World), tags_Match_2 Q (E 0) (E 1) w → swp pg Try.f39.ntmps (bodyOf Try.f39) (retW pg Try.f39.results Q) E w) (argE [a0, a1]) w H)

def slices_IndexFunc_string_string_j1 (Q : Cont) : World → Prop :=
  Q (.int .i64 (-1))
def slices_IndexFunc_string_string_l0b (Q : Cont) (nx0 : Value → Value → Value → Value → World → Prop) (t0_s t1_f t7 t8 : Value) : World → Prop :=
  bo .lss 3 t8 t7 fun v1 => iteW v1 (ia 30 t0_s t8 fun v2 => ld 9 v2 fun v3 => callV t1_f #[v3] fun v4 => iteW v4 (Q t8) (bo .add 3 t8 (.int .i64 1) fun v5 => nx0 t0_s t1_f t7 v5)) (slices_IndexFunc_string_string_j1 Q)
def slices_IndexFunc_string_string_l0 (Q : Cont) (t0_s t1_f t7 t8 : Value) : World → Prop :=
  LoopW (fun (nx : Value × Value × Value × Value → World → Prop) (s : Value × Value × Value × Value) => slices_IndexFunc_string_string_l0b Q (fun x0 x1 x2 x3 => nx (x0, x1, x2, x3)) s.1 s.2.1 s.2.2.1 s.2.2.2) (t0_s, t1_f, t7, t8)
def slices_IndexFunc_string_string_j2 (Q : Cont) (t0_s t1_f t7 t8 : Value) : World → Prop :=
  slices_IndexFunc_string_string_l0 Q t0_s t1_f t7 t8
def slices_IndexFunc_string_string_j0 (Q : Cont) (t0_s t1_f : Value) : World → Prop :=
  b_len #[30] 3 #[t0_s] fun v6 => slices_IndexFunc_string_string_j2 Q t0_s t1_f v6 (.int .i64 0)
/-- F63 slices.IndexFunc[[]string,string](s, f) -/
def slices_IndexFunc_string_string (Q : Cont) (a0 a1 : Value) : World → Prop :=
  slices_IndexFunc_string_string_j0 Q a0 a1
theorem slices_IndexFunc_string_string_ok {Q : Cont} {a0 a1 : Value} {w : World} (H : slices_IndexFunc_string_string Q a0 a1 w) : Ret pg n_slices_IndexFunc_string_string #[a0, a1] Q w :=
  fn_sound (args := [a0, a1]) follows_pg Try.func63 (by kernel_rfl) (by kernel_rfl) (by kernel_rfl) ((fun (E : Env) (w : World) (H : slices_IndexFunc_string_string Q (E 0) (E 1) w) => swp_join (fun (E : Env) (w : World) => slices_IndexFunc_string_string_j0 Q (E 0) (E 1) w) (fun E w H => swp_join (fun (E : Env) (w : World) => slices_IndexFunc_string_string_j1 Q w) (fun E w H => cast_of (by kernel_rfl) H) (swp_join (fun (E : Env) (w : World) => slices_IndexFunc_string_string_j2 Q (E 0) (E 1) (E 7) (E 8) w) (fun E w H => swp_block (swp_loop (fun (E : Env) => (E 0, E 1, E 7, E 8)) _ (fun nx0 E w H => cast_of (by kernel_rfl) H) H)) (cast_of (by kernel_rfl) H))) (cast_of (by kernel_rfl) H) : ∀ (E : Env) (w : World), slices_IndexFunc_string_string Q (E 0) (E 1) w → swp pg Try.f63.ntmps (bodyOf Try.f63) (retW pg Try.f63.results Q) E w) (argE [a0, a1]) w H)

/-- F40 slices.ContainsFunc[[]string,string](s, f) -/
def slices_ContainsFunc_string_string (Q : Cont) (a0 a1 : Value) : World → Prop :=
  Ret pg n_slices_IndexFunc_string_string #[a0, a1] fun v1 => bo .geq 3 v1 (.int .i64 0) fun v2 => Q v2
theorem slices_ContainsFunc_string_string_ok {Q : Cont} {a0 a1 : Value} {w : World} (H : slices_ContainsFunc_string_string Q a0 a1 w) : Ret pg n_slices_ContainsFunc_string_string #[a0, a1] Q w :=
  fn_sound (args := [a0, a1]) follows_pg Try.func40 (by kernel_rfl) (by kernel_rfl) (by kernel_rfl) ((fun (E : Env) (w : World) (H : slices_ContainsFunc_string_string Q (E 0) (E 1) w) => cast_of (by kernel_rfl) H : ∀ (E : Env) (w : World), slices_ContainsFunc_string_string Q (E 0) (E 1) w → swp pg Try.f40.ntmps (bodyOf Try.f40) (retW pg Try.f40.results Q) E w) (argE [a0, a1]) w H)

def tags_Match_j3 (Q : Cont) (t2_f t5_has : Value) : World → Prop :=
  fa 32 t2_f 1 fun v1 => ld 30 v1 fun v2 => b_len #[30] 3 #[v2] fun v3 => bo .eql 3 v3 (.int .i64 0) fun v4 => iteW v4 (Q (.bool true)) (fa 32 t2_f 1 fun v5 => ld 30 v5 fun v6 => ld 103 t5_has fun v7 => Ret pg n_slices_ContainsFunc_string_string #[v6, v7] fun v8 => Q v8)
def tags_Match_j4 (Q : Cont) (t2_f t5_has t18 : Value) : World → Prop :=
  iteW t18 (Q (.bool false)) (tags_Match_j3 Q t2_f t5_has)
def tags_Match_j2 (Q : Cont) (t2_f t5_has t6_lacks : Value) : World → Prop :=
  fa 32 t2_f 0 fun v9 => ld 30 v9 fun v10 => Ret pg n_slices_ContainsFunc_string_string #[v10, t6_lacks] fun v11 => iteW v11 (tags_Match_j4 Q t2_f t5_has (.bool true)) (fa 32 t2_f 2 fun v12 => ld 30 v12 fun v13 => ld 103 t5_has fun v14 => Ret pg n_slices_ContainsFunc_string_string #[v13, v14] fun v15 => tags_Match_j4 Q t2_f t5_has v15)
def tags_Match_j1 (Q : Cont) (t2_f t5_has : Value) : World → Prop :=
  mf (.func n_tags_Match_2) #[] #[t5_has] fun v16 => tags_Match_j2 Q t2_f t5_has v16
def tags_Match_j0 (Q : Cont) (t2_f t3_l : Value) : World → Prop :=
  mf (.func n_tags_Match_1) #[] #[t3_l] fun v17 => al 103 fun v18 => st 103 v18 v17 fun _ => tags_Match_j1 Q t2_f v18
/-- F18 lodestar/tags.Match(f, l) -/
def tags_Match (Q : Cont) (a0 a1 : Value) : World → Prop :=
  bx 32 a0 fun v19 => bx 30 a1 fun v20 => tags_Match_j0 Q v19 v20
theorem tags_Match_ok {Q : Cont} {a0 a1 : Value} {w : World} (H : tags_Match Q a0 a1 w) : Ret pg n_tags_Match #[a0, a1] Q w :=
  fn_sound (args := [a0, a1]) follows_pg Try.func18 (by kernel_rfl) (by kernel_rfl) (by kernel_rfl) ((fun (E : Env) (w : World) (H : tags_Match Q (E 0) (E 1) w) => swp_join (fun (E : Env) (w : World) => tags_Match_j0 Q (E 2) (E 3) w) (fun E w H => swp_join (fun (E : Env) (w : World) => tags_Match_j1 Q (E 2) (E 5) w) (fun E w H => swp_join (fun (E : Env) (w : World) => tags_Match_j2 Q (E 2) (E 5) (E 6) w) (fun E w H => swp_join (fun (E : Env) (w : World) => tags_Match_j3 Q (E 2) (E 5) w) (fun E w H => cast_of (by kernel_rfl) H) (swp_join (fun (E : Env) (w : World) => tags_Match_j4 Q (E 2) (E 5) (E 18) w) (fun E w H => cast_of (by kernel_rfl) H) (cast_of (by kernel_rfl) H))) (cast_of (by kernel_rfl) H)) (cast_of (by kernel_rfl) H)) (cast_of (by kernel_rfl) H) : ∀ (E : Env) (w : World), tags_Match Q (E 0) (E 1) w → swp pg Try.f18.ntmps (bodyOf Try.f18) (retW pg Try.f18.results Q) E w) (argE [a0, a1]) w H)

/-- F16 lodestar/lodestarlaw03.alive() -/
def lodestarlaw03_alive (Q : Cont) : World → Prop :=
  bs 30 3 #[(0, (.string ⟨#[98]⟩)), (1, (.string ⟨#[97]⟩)), (2, (.string ⟨#[98]⟩))] fun v1 => Ret pg n_tags_Sort #[v1] fun v2 => ex v2 0 fun v3 => ex v2 1 fun v4 => bs 30 1 #[(0, (.string ⟨#[97]⟩))] fun v5 => bs 30 2 #[(0, (.string ⟨#[98]⟩)), (1, (.string ⟨#[99]⟩))] fun v6 => bs 30 1 #[(0, (.string ⟨#[100]⟩))] fun v7 => bd 32 #[(0, v5), (1, v6), (2, v7)] fun v8 => al 32 fun v9 => st 32 v9 v8 fun _ => bo .eql 46 v4 (.int .i64 0) fun v10 => iteW v10 (bs 30 2 #[(0, (.string ⟨#[97]⟩)), (1, (.string ⟨#[98]⟩))] fun v11 => Ret pg n_lodestarref03_Same #[v3, v11] fun v12 => iteW v12 (bs 30 2 #[(0, (.string ⟨#[98]⟩)), (1, (.string ⟨#[97]⟩))] fun v13 => Ret pg n_tags_Check #[v13] fun v14 => bo .eql 46 v14 (.int .i64 30) fun v15 => iteW v15 (ld 32 v9 fun v16 => bs 30 2 #[(0, (.string ⟨#[97]⟩)), (1, (.string ⟨#[98]⟩))] fun v17 => Ret pg n_tags_Match #[v16, v17] fun v18 => iteW v18 (ld 32 v9 fun v19 => bs 30 1 #[(0, (.string ⟨#[97]⟩))] fun v20 => Ret pg n_tags_Match #[v19, v20] fun v21 => uo .not v21 fun v22 => iteW v22 (ld 32 v9 fun v23 => bs 30 3 #[(0, (.string ⟨#[97]⟩)), (1, (.string ⟨#[99]⟩)), (2, (.string ⟨#[100]⟩))] fun v24 => Ret pg n_tags_Match #[v23, v24] fun v25 => uo .not v25 fun v26 => Q v26) (Q (.bool false))) (Q (.bool false))) (Q (.bool false))) (Q (.bool false))) (Q (.bool false))
theorem lodestarlaw03_alive_ok {Q : Cont} {w : World} (H : lodestarlaw03_alive Q  w) : Ret pg n_lodestarlaw03_alive #[] Q w :=
  fn_sound (args := []) follows_pg Try.func16 (by kernel_rfl) (by kernel_rfl) (by kernel_rfl) ((fun (E : Env) (w : World) (H : lodestarlaw03_alive Q  w) => cast_of (by kernel_rfl) H : ∀ (E : Env) (w : World), lodestarlaw03_alive Q  w → swp pg Try.f16.ntmps (bodyOf Try.f16) (retW pg Try.f16.results Q) E w) (argE []) w H)

def maps_Keys_map_uint64_session_session_uint64_session_session_1_l0b (Q : Cont) (nx0 : Value → Value → World → Prop) (t0_yield t5 : Value) : World → Prop :=
  nt t5 false 0 fun v1 => ex v1 0 fun v2 => iteW v2 (en t5 fun v3 => ex v3 0 fun v4 => callV t0_yield #[v4] fun v5 => uo .not v5 fun v6 => iteW v6 (Q (.tuple #[])) (nx0 t0_yield t5)) (Q (.tuple #[]))
def maps_Keys_map_uint64_session_session_uint64_session_session_1_l0 (Q : Cont) (t0_yield t5 : Value) : World → Prop :=
  LoopW (fun (nx : Value × Value → World → Prop) (s : Value × Value) => maps_Keys_map_uint64_session_session_uint64_session_session_1_l0b Q (fun x0 x1 => nx (x0, x1)) s.1 s.2) (t0_yield, t5)
def maps_Keys_map_uint64_session_session_uint64_session_session_1_j0 (Q : Cont) (t0_yield t5 : Value) : World → Prop :=
  maps_Keys_map_uint64_session_session_uint64_session_session_1_l0 Q t0_yield t5
/-- F66 maps.Keys[map[uint64]*lodestar/session.session,uint64,*lodestar/session.session]$1(yield, ) -/
def maps_Keys_map_uint64_session_session_uint64_session_session_1 (Q : Cont) (a0 a1 : Value) : World → Prop :=
  ld 82 a1 fun v7 => rg 82 v7 fun v8 => maps_Keys_map_uint64_session_session_uint64_session_session_1_j0 Q a0 v8
theorem maps_Keys_map_uint64_session_session_uint64_session_session_1_ok {Q : Cont} {a0 a1 : Value} {w : World} (H : maps_Keys_map_uint64_session_session_uint64_session_session_1 Q a0 a1 w) : Ret pg n_maps_Keys_map_uint64_session_session_uint64_session_session_1 #[a0, a1] Q w :=
  fn_sound (args := [a0, a1]) follows_pg Try.func66 (by kernel_rfl) (by kernel_rfl) (by kernel_rfl) ((fun (E : Env) (w : World) (H : maps_Keys_map_uint64_session_session_uint64_session_session_1 Q (E 0) (E 1) w) => swp_join (fun (E : Env) (w : World) => maps_Keys_map_uint64_session_session_uint64_session_session_1_j0 Q (E 0) (E 5) w) (fun E w H => swp_block (swp_loop (fun (E : Env) => (E 0, E 5)) _ (fun nx0 E w H => cast_of (by kernel_rfl) H) H)) (cast_of (by kernel_rfl) H) : ∀ (E : Env) (w : World), maps_Keys_map_uint64_session_session_uint64_session_session_1 Q (E 0) (E 1) w → swp pg Try.f66.ntmps (bodyOf Try.f66) (retW pg Try.f66.results Q) E w) (argE [a0, a1]) w H)

/-- F43 maps.Keys[map[uint64]*lodestar/session.session,uint64,*lodestar/session.session](m) -/
def maps_Keys_map_uint64_session_session_uint64_session_session (Q : Cont) (a0 : Value) : World → Prop :=
  bx 82 a0 fun v1 => mf (.func n_maps_Keys_map_uint64_session_session_uint64_session_session_1) #[] #[v1] fun v2 => Q v2
theorem maps_Keys_map_uint64_session_session_uint64_session_session_ok {Q : Cont} {a0 : Value} {w : World} (H : maps_Keys_map_uint64_session_session_uint64_session_session Q a0 w) : Ret pg n_maps_Keys_map_uint64_session_session_uint64_session_session #[a0] Q w :=
  fn_sound (args := [a0]) follows_pg Try.func43 (by kernel_rfl) (by kernel_rfl) (by kernel_rfl) ((fun (E : Env) (w : World) (H : maps_Keys_map_uint64_session_session_uint64_session_session Q (E 0) w) => cast_of (by kernel_rfl) H : ∀ (E : Env) (w : World), maps_Keys_map_uint64_session_session_uint64_session_session Q (E 0) w → swp pg Try.f43.ntmps (bodyOf Try.f43) (retW pg Try.f43.results Q) E w) (argE [a0]) w H)

/-- F64 slices.Collect[uint64](seq) -/
def slices_Collect_uint64 (Q : Cont) (a0 : Value) : World → Prop :=
  Ret pg n_slices_AppendSeq_uint64_uint64 #[(.slice none 0 0), a0] fun v1 => Q v1
theorem slices_Collect_uint64_ok {Q : Cont} {a0 : Value} {w : World} (H : slices_Collect_uint64 Q a0 w) : Ret pg n_slices_Collect_uint64 #[a0] Q w :=
  fn_sound (args := [a0]) follows_pg Try.func64 (by kernel_rfl) (by kernel_rfl) (by kernel_rfl) ((fun (E : Env) (w : World) (H : slices_Collect_uint64 Q (E 0) w) => cast_of (by kernel_rfl) H : ∀ (E : Env) (w : World), slices_Collect_uint64 Q (E 0) w → swp pg Try.f64.ntmps (bodyOf Try.f64) (retW pg Try.f64.results Q) E w) (argE [a0]) w H)

/-- F120 cmp.isNaN[uint64](x) -/
def cmp_isNaN_uint64 (Q : Cont) (a0 : Value) : World → Prop :=
  bo .neq 23 a0 a0 fun v1 => Q v1
theorem cmp_isNaN_uint64_ok {Q : Cont} {a0 : Value} {w : World} (H : cmp_isNaN_uint64 Q a0 w) : Ret pg n_cmp_isNaN_uint64 #[a0] Q w :=
  fn_sound (args := [a0]) follows_pg Try.func120 (by kernel_rfl) (by kernel_rfl) (by kernel_rfl) ((fun (E : Env) (w : World) (H : cmp_isNaN_uint64 Q (E 0) w) => cast_of (by kernel_rfl) H : ∀ (E : Env) (w : World), cmp_isNaN_uint64 Q (E 0) w → swp pg Try.f120.ntmps (bodyOf Try.f120) (retW pg Try.f120.results Q) E w) (argE [a0]) w H)

/-- F107 cmp.Less[uint64](x, y) -/
def cmp_Less_uint64 (Q : Cont) (a0 a1 : Value) : World → Prop :=
  Ret pg n_cmp_isNaN_uint64 #[a0] fun v1 => iteW v1 (Ret pg n_cmp_isNaN_uint64 #[a1] fun v2 => uo .not v2 fun v3 => iteW v3 (Q (.bool true)) (bo .lss 23 a0 a1 fun v4 => Q v4)) (bo .lss 23 a0 a1 fun v5 => Q v5)
theorem cmp_Less_uint64_ok {Q : Cont} {a0 a1 : Value} {w : World} (H : cmp_Less_uint64 Q a0 a1 w) : Ret pg n_cmp_Less_uint64 #[a0, a1] Q w :=
  fn_sound (args := [a0, a1]) follows_pg Try.func107 (by kernel_rfl) (by kernel_rfl) (by kernel_rfl) ((fun (E : Env) (w : World) (H : cmp_Less_uint64 Q (E 0) (E 1) w) => cast_of (by kernel_rfl) H : ∀ (E : Env) (w : World), cmp_Less_uint64 Q (E 0) (E 1) w → swp pg Try.f107.ntmps (bodyOf Try.f107) (retW pg Try.f107.results Q) E w) (argE [a0, a1]) w H)

def slices_insertionSortOrdered_uint64_j2 (_Q : Cont) (nx0 : Value → Value → Value → Value → World → Prop) (t0_data t1_a t2_b t6_i : Value) : World → Prop :=
  bo .add 3 t6_i (.int .i64 1) fun v1 => nx0 t0_data t1_a t2_b v1
def slices_insertionSortOrdered_uint64_j4 (_Q : Cont) (_nx0 : Value → Value → Value → Value → World → Prop) (nx1 : Value → Value → Value → Value → Value → World → Prop) (t0_data t1_a t2_b t6_i t7_j : Value) : World → Prop :=
  (fun w0 => boq .sub 3 t7_j (.int .i64 1) (fun v2 => boq .sub 3 t7_j (.int .i64 1) (fun v3 => iaq 58 t0_data v3 (fun v4 => ldq 23 v4 (fun v5 => iaq 58 t0_data t7_j (fun v6 => ldq 23 v6 (fun v7 => iaq 58 t0_data t7_j (fun v8 => st 23 v8 v5 (fun _ w1 => (boq .sub 3 t7_j (.int .i64 1) (fun v => v = v2) w1) ∧ iaq 58 t0_data v2 (fun v9 => st 23 v9 v7 (fun _ w2 => (bo .sub 3 t7_j (.int .i64 1) fun v10 => nx1 t0_data t1_a t2_b t6_i v10) w2) w1) w1) (drw w0)) (drw w0)) (drw w0)) (drw w0)) (drw w0)) (drw w0)) (drw w0)) (drw w0))
def slices_insertionSortOrdered_uint64_j5 (Q : Cont) (nx0 : Value → Value → Value → Value → World → Prop) (nx1 : Value → Value → Value → Value → Value → World → Prop) (t0_data t1_a t2_b t6_i t7_j t30 : Value) : World → Prop :=
  iteW t30 (slices_insertionSortOrdered_uint64_j4 Q nx0 nx1 t0_data t1_a t2_b t6_i t7_j) (slices_insertionSortOrdered_uint64_j2 Q nx0 t0_data t1_a t2_b t6_i)
def slices_insertionSortOrdered_uint64_l1b (Q : Cont) (nx0 : Value → Value → Value → Value → World → Prop) (nx1 : Value → Value → Value → Value → Value → World → Prop) (t0_data t1_a t2_b t6_i t7_j : Value) : World → Prop :=
  (fun w0 => boq .gtr 3 t7_j t1_a (fun v11 => condW v11 (iaq 58 t0_data t7_j (fun v12 => ldq 23 v12 (fun v13 => boq .sub 3 t7_j (.int .i64 1) (fun v14 => iaq 58 t0_data v14 (fun v15 => ldq 23 v15 (fun v16 => Ret pg n_cmp_Less_uint64 #[v13, v16] (fun v17 w1 => (slices_insertionSortOrdered_uint64_j5 Q nx0 nx1 t0_data t1_a t2_b t6_i t7_j v17) w1) (drw w0)) (drw w0)) (drw w0)) (drw w0)) (drw w0)) (drw w0)) ((slices_insertionSortOrdered_uint64_j5 Q nx0 nx1 t0_data t1_a t2_b t6_i t7_j (.bool false)) (drw w0))) (drw w0))
def slices_insertionSortOrdered_uint64_l1 (Q : Cont) (nx0 : Value → Value → Value → Value → World → Prop) (t0_data t1_a t2_b t6_i t7_j : Value) : World → Prop :=
  LoopW (fun (nx : Value × Value × Value × Value × Value → World → Prop) (s : Value × Value × Value × Value × Value) => slices_insertionSortOrdered_uint64_l1b Q nx0 (fun x0 x1 x2 x3 x4 => nx (x0, x1, x2, x3, x4)) s.1 s.2.1 s.2.2.1 s.2.2.2.1 s.2.2.2.2) (t0_data, t1_a, t2_b, t6_i, t7_j)
def slices_insertionSortOrdered_uint64_j3 (Q : Cont) (nx0 : Value → Value → Value → Value → World → Prop) (t0_data t1_a t2_b t6_i t7_j : Value) : World → Prop :=
  slices_insertionSortOrdered_uint64_l1 Q nx0 t0_data t1_a t2_b t6_i t7_j
def slices_insertionSortOrdered_uint64_j1 (Q : Cont) (nx0 : Value → Value → Value → Value → World → Prop) (t0_data t1_a t2_b t6_i : Value) : World → Prop :=
  slices_insertionSortOrdered_uint64_j3 Q nx0 t0_data t1_a t2_b t6_i t6_i
def slices_insertionSortOrdered_uint64_l0b (Q : Cont) (nx0 : Value → Value → Value → Value → World → Prop) (t0_data t1_a t2_b t6_i : Value) : World → Prop :=
  bo .lss 3 t6_i t2_b fun v18 => iteW v18 (slices_insertionSortOrdered_uint64_j1 Q nx0 t0_data t1_a t2_b t6_i) (Q (.tuple #[]))
def slices_insertionSortOrdered_uint64_l0 (Q : Cont) (t0_data t1_a t2_b t6_i : Value) : World → Prop :=
  LoopW (fun (nx : Value × Value × Value × Value → World → Prop) (s : Value × Value × Value × Value) => slices_insertionSortOrdered_uint64_l0b Q (fun x0 x1 x2 x3 => nx (x0, x1, x2, x3)) s.1 s.2.1 s.2.2.1 s.2.2.2) (t0_data, t1_a, t2_b, t6_i)
def slices_insertionSortOrdered_uint64_j0 (Q : Cont) (t0_data t1_a t2_b t6_i : Value) : World → Prop :=
  slices_insertionSortOrdered_uint64_l0 Q t0_data t1_a t2_b t6_i
/-- F101 slices.insertionSortOrdered[uint64](data, a, b) -/
def slices_insertionSortOrdered_uint64 (Q : Cont) (a0 a1 a2 : Value) : World → Prop :=
  bo .add 3 a1 (.int .i64 1) fun v19 => slices_insertionSortOrdered_uint64_j0 Q a0 a1 a2 v19
theorem slices_insertionSortOrdered_uint64_ok {Q : Cont} {a0 a1 a2 : Value} {w : World} (H : slices_insertionSortOrdered_uint64 Q a0 a1 a2 w) : Ret pg n_slices_insertionSortOrdered_uint64 #[a0, a1, a2] Q w :=
  fn_sound (args := [a0, a1, a2]) follows_pg Try.func101 (by kernel_rfl) (by kernel_rfl) (by kernel_rfl) ((fun (E : Env) (w : World) (H : slices_insertionSortOrdered_uint64 Q (E 0) (E 1) (E 2) w) => swp_join (fun (E : Env) (w : World) => slices_insertionSortOrdered_uint64_j0 Q (E 0) (E 1) (E 2) (E 6) w) (fun E w H => swp_block (swp_loop (fun (E : Env) => (E 0, E 1, E 2, E 6)) _ (fun nx0 E w H => swp_join (fun (E : Env) (w : World) => slices_insertionSortOrdered_uint64_j1 Q (fun x0 x1 x2 x3 => nx0 (x0, x1, x2, x3)) (E 0) (E 1) (E 2) (E 6) w) (fun E w H => swp_join (fun (E : Env) (w : World) => slices_insertionSortOrdered_uint64_j2 Q (fun x0 x1 x2 x3 => nx0 (x0, x1, x2, x3)) (E 0) (E 1) (E 2) (E 6) w) (fun E w H => cast_of (by kernel_rfl) H) (swp_block (swp_join (fun (E : Env) (w : World) => slices_insertionSortOrdered_uint64_j3 Q (fun x0 x1 x2 x3 => nx0 (x0, x1, x2, x3)) (E 0) (E 1) (E 2) (E 6) (E 7) w) (fun E w H => swp_block (swp_loop (fun (E : Env) => (E 0, E 1, E 2, E 6, E 7)) _ (fun nx1 E w H => swp_join (fun (E : Env) (w : World) => slices_insertionSortOrdered_uint64_j4 Q (fun x0 x1 x2 x3 => nx0 (x0, x1, x2, x3)) (fun x0 x1 x2 x3 x4 => nx1 (x0, x1, x2, x3, x4)) (E 0) (E 1) (E 2) (E 6) (E 7) w) (fun E w H => cast_of (by kernel_rfl) H) (swp_join (fun (E : Env) (w : World) => slices_insertionSortOrdered_uint64_j5 Q (fun x0 x1 x2 x3 => nx0 (x0, x1, x2, x3)) (fun x0 x1 x2 x3 x4 => nx1 (x0, x1, x2, x3, x4)) (E 0) (E 1) (E 2) (E 6) (E 7) (E 30) w) (fun E w H => cast_of (by kernel_rfl) H) (cast_of (by kernel_rfl) H))) H)) (cast_of (by kernel_rfl) H)))) (cast_of (by kernel_rfl) H)) H)) (cast_of (by kernel_rfl) H) : ∀ (E : Env) (w : World), slices_insertionSortOrdered_uint64 Q (E 0) (E 1) (E 2) w → swp pg Try.f101.ntmps (bodyOf Try.f101) (retW pg Try.f101.results Q) E w) (argE [a0, a1, a2]) w H)


end Go.Proofs.Ytpdcllhmbjnooaa
