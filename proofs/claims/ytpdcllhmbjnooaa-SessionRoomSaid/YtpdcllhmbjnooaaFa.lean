import Derived.Test.YtpdcllhmbjnooaaLj
import Derived.Test.YtpdcllhmbjnooaaMq
/- Rules for the printed operations, by type; printed by a program (facts.py). -/
namespace Go.Proofs.Ytpdcllhmbjnooaa
open Go.Dc
set_option maxRecDepth 100000

abbrev T_int64 : TypeId := 2
abbrev T_int : TypeId := 3
abbrev T_bool : TypeId := 4
abbrev T_uint8 : TypeId := 5
abbrev T_abi_BoundsErrorCode : TypeId := 6
abbrev T_runtime_boundsError : TypeId := 8
abbrev T_string : TypeId := 9
abbrev T_runtime_errorString : TypeId := 10
abbrev T_runtime_plainError : TypeId := 11
abbrev T_uintptr : TypeId := 12
abbrev T_runtime_errorAddressString : TypeId := 14
abbrev T_p_runtime_TypeAssertionError : TypeId := 15
abbrev T_p_runtime_PanicNilError : TypeId := 16
abbrev T_p_abi_Type : TypeId := 17
abbrev T_maps_unhashableTypeError : TypeId := 19
abbrev T_int32 : TypeId := 21
abbrev T_uint32 : TypeId := 22
abbrev T_uint64 : TypeId := 23
abbrev T_api_Metric : TypeId := 24
abbrev T_uint16 : TypeId := 25
abbrev T_api_Conf : TypeId := 27
abbrev T_s_api_Change : TypeId := 28
abbrev T_s_int32 : TypeId := 29
abbrev T_s_string : TypeId := 30
abbrev T_api_Filter : TypeId := 32
abbrev T_s_uint8 : TypeId := 33
abbrev T_s_api_Item : TypeId := 34
abbrev T_s_api_Hit : TypeId := 35
abbrev T_api_Message : TypeId := 37
abbrev T_p_session_Hub : TypeId := 40
abbrev T_s_api_Message : TypeId := 42
abbrev T_s_int : TypeId := 43
abbrev T_api_Turn : TypeId := 45
abbrev T_api_Errno : TypeId := 46
abbrev T_s_uint64 : TypeId := 58
abbrev T_s_lodestarlaw18_Op : TypeId := 62
abbrev T_p_lodestarlaw18_Both : TypeId := 63
abbrev T_lodestarlaw18_Op : TypeId := 66
abbrev T_p_lodestarref18_Hub : TypeId := 69
abbrev T_s__2_uint64 : TypeId := 70
abbrev T_lodestarlaw18_Both : TypeId := 72
abbrev T_s_lodestarref18_Session : TypeId := 73
abbrev T_lodestarref18_Hub : TypeId := 75
abbrev T_api_Item : TypeId := 79
abbrev T_map_int_p_session_conn : TypeId := 81
abbrev T_map_uint64_p_session_session : TypeId := 82
abbrev T_session_Hub : TypeId := 84
abbrev T_p_session_conn : TypeId := 85
abbrev T_p_session_session : TypeId := 86
abbrev T_session_conn : TypeId := 88
abbrev T_p_dedup_Table : TypeId := 91
abbrev T_p_credit_Window : TypeId := 92
abbrev T_session_session : TypeId := 94
abbrev T_lodestarref16_Table : TypeId := 112
abbrev T_lodestarref17_Window : TypeId := 114
abbrev T_lodestarref18_Session : TypeId := 116
abbrev T_2_uint64 : TypeId := 120
abbrev T_api_Change : TypeId := 123
abbrev T_map_uint32_api_Message : TypeId := 126
abbrev T_dedup_Table : TypeId := 128
abbrev T_atomic_noCopy : TypeId := 130
abbrev T_atomic_Uint32 : TypeId := 132
abbrev T_credit_Window : TypeId := 134
abbrev T_api_Verdict : TypeId := 135
abbrev T_p_lodestarref18_Session : TypeId := 146
abbrev T_p_atomic_Uint32 : TypeId := 156
abbrev T_p_uint32 : TypeId := 158
abbrev T_uint : TypeId := 161
abbrev T_p_lodestarref17_Window : TypeId := 164
abbrev T_p_lodestarref16_Table : TypeId := 166
abbrev T_slices_sortedHint : TypeId := 174
abbrev T_api_Hit : TypeId := 190
abbrev T_slices_xorshift : TypeId := 191
abbrev T_p_int : TypeId := 195
abbrev T_p_slices_xorshift : TypeId := 199
abbrev T_runtime_TypeAssertionError : TypeId := 205
abbrev T_0_p_runtime_PanicNilError : TypeId := 206
abbrev T_runtime_PanicNilError : TypeId := 208
abbrev T_abi_TFlag : TypeId := 209
abbrev T_abi_Kind : TypeId := 210
abbrev T_p_uint8 : TypeId := 212
abbrev T_abi_NameOff : TypeId := 213
abbrev T_abi_TypeOff : TypeId := 214
abbrev T_abi_Type : TypeId := 216

theorem keys_map_uint32_api_Message : Keys pg 22 (fun n : Int => Value.int .u32 n) := keys_int (kd' := .u32) (by kernel_rfl)
theorem lk_map_uint32_api_Message {r : Nat} {l : List (Int × Value)} {w : World} (h : MapIs (fun n : Int => Value.int .u32 n) (hp w r) l) (a : Int) (k : Cont) : lk 126 (.map (some r)) (.int .u32 a) false k w = k ((getM l a).getD (.agg #[(.int .u8 0), (.int .u32 0), (.int .u32 0), (.int .u64 0), (.int .u8 0), (.int .u32 0), (.string ⟨#[]⟩), (.string ⟨#[]⟩), (.int .u8 0), (.int .u8 0), (.bool false), (.int .u8 0), (.int .u16 0), (.slice none 0 0), (.int .u32 0), (.slice none 0 0), (.int .u16 0), (.int .u16 0), (.slice none 0 0), (.slice none 0 0), (.slice none 0 0), (.int .u32 0), (.int .u32 0), (.slice none 0 0), (.int .u64 0), (.slice none 0 0), (.slice none 0 0), (.slice none 0 0)])) w := Run_ok (run_lookup (P := pg) (V := 37) (by kernel_rfl) keys_map_uint32_api_Message (by kernel_rfl) h a false)
theorem lkq_map_uint32_api_Message {r : Nat} {l : List (Int × Value)} {w : World} (h : MapIs (fun n : Int => Value.int .u32 n) (hp w r) l) (a : Int) (k : Value → Prop) : lkq 126 (.map (some r)) (.int .u32 a) false k w = k ((getM l a).getD (.agg #[(.int .u8 0), (.int .u32 0), (.int .u32 0), (.int .u64 0), (.int .u8 0), (.int .u32 0), (.string ⟨#[]⟩), (.string ⟨#[]⟩), (.int .u8 0), (.int .u8 0), (.bool false), (.int .u8 0), (.int .u16 0), (.slice none 0 0), (.int .u32 0), (.slice none 0 0), (.int .u16 0), (.int .u16 0), (.slice none 0 0), (.slice none 0 0), (.slice none 0 0), (.int .u32 0), (.int .u32 0), (.slice none 0 0), (.int .u64 0), (.slice none 0 0), (.slice none 0 0), (.slice none 0 0)])) := RunQ_ok (run_lookup (P := pg) (V := 37) (by kernel_rfl) keys_map_uint32_api_Message (by kernel_rfl) h a false)
theorem lko_map_uint32_api_Message {r : Nat} {l : List (Int × Value)} {w : World} (h : MapIs (fun n : Int => Value.int .u32 n) (hp w r) l) (a : Int) (k : Cont) : lk 126 (.map (some r)) (.int .u32 a) true k w = k (.tuple #[(getM l a).getD (.agg #[(.int .u8 0), (.int .u32 0), (.int .u32 0), (.int .u64 0), (.int .u8 0), (.int .u32 0), (.string ⟨#[]⟩), (.string ⟨#[]⟩), (.int .u8 0), (.int .u8 0), (.bool false), (.int .u8 0), (.int .u16 0), (.slice none 0 0), (.int .u32 0), (.slice none 0 0), (.int .u16 0), (.int .u16 0), (.slice none 0 0), (.slice none 0 0), (.slice none 0 0), (.int .u32 0), (.int .u32 0), (.slice none 0 0), (.int .u64 0), (.slice none 0 0), (.slice none 0 0), (.slice none 0 0)]), .bool (getM l a).isSome]) w := Run_ok (run_lookup (P := pg) (V := 37) (by kernel_rfl) keys_map_uint32_api_Message (by kernel_rfl) h a true)
theorem mu_map_uint32_api_Message {r : Nat} {l : List (Int × Value)} {w : World} (h : MapIs (fun n : Int => Value.int .u32 n) (hp w r) l) (a : Int) (v : Value) : ∃ o, MapIs (fun n : Int => Value.int .u32 n) (some o) (setM l a v) ∧ ∀ k : Cont, mu 126 (.map (some r)) (.int .u32 a) v k w = k undef (put w r o) := by
  obtain ⟨o, h1, h2⟩ := run_mapUpdate (P := pg) (t := 126) (V := 37) (by kernel_rfl) keys_map_uint32_api_Message h a v
  exact ⟨o, h1, fun k => Run_ok h2⟩
theorem me_map_uint32_api_Message {r : Nat} {l : List (Int × Value)} {w : World} (h : MapIs (fun n : Int => Value.int .u32 n) (hp w r) l) (a : Int) (hn : getM l a = none) : ∃ o n, MapIs (fun n : Int => Value.int .u32 n) (some o) (setM l a (.agg #[(.int .u8 0), (.int .u32 0), (.int .u32 0), (.int .u64 0), (.int .u8 0), (.int .u32 0), (.string ⟨#[]⟩), (.string ⟨#[]⟩), (.int .u8 0), (.int .u8 0), (.bool false), (.int .u8 0), (.int .u16 0), (.slice none 0 0), (.int .u32 0), (.slice none 0 0), (.int .u16 0), (.int .u16 0), (.slice none 0 0), (.slice none 0 0), (.slice none 0 0), (.int .u32 0), (.int .u32 0), (.slice none 0 0), (.int .u64 0), (.slice none 0 0), (.slice none 0 0), (.slice none 0 0)])) ∧ StampIs (fun n : Int => Value.int .u32 n) (some o) a n ∧ ∀ k : Cont, me 126 (.map (some r)) (.int .u32 a) k w = k (.tuple #[(.agg #[(.int .u8 0), (.int .u32 0), (.int .u32 0), (.int .u64 0), (.int .u8 0), (.int .u32 0), (.string ⟨#[]⟩), (.string ⟨#[]⟩), (.int .u8 0), (.int .u8 0), (.bool false), (.int .u8 0), (.int .u16 0), (.slice none 0 0), (.int .u32 0), (.slice none 0 0), (.int .u16 0), (.int .u16 0), (.slice none 0 0), (.slice none 0 0), (.slice none 0 0), (.int .u32 0), (.int .u32 0), (.slice none 0 0), (.int .u64 0), (.slice none 0 0), (.slice none 0 0), (.slice none 0 0)]), I n]) (put w r o) := by
  obtain ⟨o, n, h1, h2, h3⟩ := run_mapEntry (P := pg) (t := 126) (V := 37) (by kernel_rfl) keys_map_uint32_api_Message (by kernel_rfl) h a hn
  exact ⟨o, n, h1, h2, fun k => Run_ok h3⟩
theorem es_map_uint32_api_Message {r : Nat} {l : List (Int × Value)} {w : World} (h : MapIs (fun n : Int => Value.int .u32 n) (hp w r) l) (hl : (l.map (·.1)).Nodup) (a : Int) (n : Int) (hs : StampIs (fun n : Int => Value.int .u32 n) (hp w r) a n) (v : Value) : ∃ o, MapIs (fun n : Int => Value.int .u32 n) (some o) (setM l a v) ∧ ∀ k : Cont, es 126 (.map (some r)) (I n) v k w = k undef (put w r o) := by
  obtain ⟨o, h1, h2⟩ := run_entryStore (P := pg) (t := 126) (by intro a b h; injection h) hl h a n hs v
  exact ⟨o, h1, fun k => Run_ok h2⟩
theorem del_map_uint32_api_Message {r : Nat} {l : List (Int × Value)} {w : World} (h : MapIs (fun n : Int => Value.int .u32 n) (hp w r) l) (a : Int) : ∃ o, MapIs (fun n : Int => Value.int .u32 n) (some o) (delM l a) ∧ ∀ k : Cont, b_delete #[126, 22] 0 #[.map (some r), (.int .u32 a)] k w = k (.tuple #[]) (put w r o) := by
  obtain ⟨o, h1, h2⟩ := run_delete (P := pg) (t := 126) (V := 37) (ty := 0) (ats := #[126, 22]) rfl (by kernel_rfl) keys_map_uint32_api_Message h a
  exact ⟨o, h1, fun k => Run_ok h2⟩
theorem len_map_uint32_api_Message {r : Nat} {l : List (Int × Value)} {w : World} (h : MapIs (fun n : Int => Value.int .u32 n) (hp w r) l) (ty : TypeId) (k : Cont) : b_len #[126] ty #[.map (some r)] k w = k (I l.length) w := Run_ok (run_lenMap (P := pg) (t := 126) (K := 22) (V := 37) (key := (fun n : Int => Value.int .u32 n)) rfl (by kernel_rfl) h)
theorem lenq_map_uint32_api_Message {r : Nat} {l : List (Int × Value)} {w : World} (h : MapIs (fun n : Int => Value.int .u32 n) (hp w r) l) (ty : TypeId) (k : Value → Prop) : b_lenq #[126] ty #[.map (some r)] k w = k (I l.length) := RunQ_ok (run_lenMap (P := pg) (t := 126) (K := 22) (V := 37) (key := (fun n : Int => Value.int .u32 n)) rfl (by kernel_rfl) h)
theorem keys_map_int_p_session_conn : Keys pg 3 (fun n : Int => Value.int .i64 n) := keys_int (kd' := .i64) (by kernel_rfl)
theorem lk_map_int_p_session_conn {r : Nat} {l : List (Int × Value)} {w : World} (h : MapIs (fun n : Int => Value.int .i64 n) (hp w r) l) (a : Int) (k : Cont) : lk 81 (.map (some r)) (.int .i64 a) false k w = k ((getM l a).getD (.pointer none)) w := Run_ok (run_lookup (P := pg) (V := 85) (by kernel_rfl) keys_map_int_p_session_conn (by kernel_rfl) h a false)
theorem lkq_map_int_p_session_conn {r : Nat} {l : List (Int × Value)} {w : World} (h : MapIs (fun n : Int => Value.int .i64 n) (hp w r) l) (a : Int) (k : Value → Prop) : lkq 81 (.map (some r)) (.int .i64 a) false k w = k ((getM l a).getD (.pointer none)) := RunQ_ok (run_lookup (P := pg) (V := 85) (by kernel_rfl) keys_map_int_p_session_conn (by kernel_rfl) h a false)
theorem lko_map_int_p_session_conn {r : Nat} {l : List (Int × Value)} {w : World} (h : MapIs (fun n : Int => Value.int .i64 n) (hp w r) l) (a : Int) (k : Cont) : lk 81 (.map (some r)) (.int .i64 a) true k w = k (.tuple #[(getM l a).getD (.pointer none), .bool (getM l a).isSome]) w := Run_ok (run_lookup (P := pg) (V := 85) (by kernel_rfl) keys_map_int_p_session_conn (by kernel_rfl) h a true)
theorem mu_map_int_p_session_conn {r : Nat} {l : List (Int × Value)} {w : World} (h : MapIs (fun n : Int => Value.int .i64 n) (hp w r) l) (a : Int) (v : Value) : ∃ o, MapIs (fun n : Int => Value.int .i64 n) (some o) (setM l a v) ∧ ∀ k : Cont, mu 81 (.map (some r)) (.int .i64 a) v k w = k undef (put w r o) := by
  obtain ⟨o, h1, h2⟩ := run_mapUpdate (P := pg) (t := 81) (V := 85) (by kernel_rfl) keys_map_int_p_session_conn h a v
  exact ⟨o, h1, fun k => Run_ok h2⟩
theorem me_map_int_p_session_conn {r : Nat} {l : List (Int × Value)} {w : World} (h : MapIs (fun n : Int => Value.int .i64 n) (hp w r) l) (a : Int) (hn : getM l a = none) : ∃ o n, MapIs (fun n : Int => Value.int .i64 n) (some o) (setM l a (.pointer none)) ∧ StampIs (fun n : Int => Value.int .i64 n) (some o) a n ∧ ∀ k : Cont, me 81 (.map (some r)) (.int .i64 a) k w = k (.tuple #[(.pointer none), I n]) (put w r o) := by
  obtain ⟨o, n, h1, h2, h3⟩ := run_mapEntry (P := pg) (t := 81) (V := 85) (by kernel_rfl) keys_map_int_p_session_conn (by kernel_rfl) h a hn
  exact ⟨o, n, h1, h2, fun k => Run_ok h3⟩
theorem es_map_int_p_session_conn {r : Nat} {l : List (Int × Value)} {w : World} (h : MapIs (fun n : Int => Value.int .i64 n) (hp w r) l) (hl : (l.map (·.1)).Nodup) (a : Int) (n : Int) (hs : StampIs (fun n : Int => Value.int .i64 n) (hp w r) a n) (v : Value) : ∃ o, MapIs (fun n : Int => Value.int .i64 n) (some o) (setM l a v) ∧ ∀ k : Cont, es 81 (.map (some r)) (I n) v k w = k undef (put w r o) := by
  obtain ⟨o, h1, h2⟩ := run_entryStore (P := pg) (t := 81) (by intro a b h; injection h) hl h a n hs v
  exact ⟨o, h1, fun k => Run_ok h2⟩
theorem del_map_int_p_session_conn {r : Nat} {l : List (Int × Value)} {w : World} (h : MapIs (fun n : Int => Value.int .i64 n) (hp w r) l) (a : Int) : ∃ o, MapIs (fun n : Int => Value.int .i64 n) (some o) (delM l a) ∧ ∀ k : Cont, b_delete #[81, 3] 0 #[.map (some r), (.int .i64 a)] k w = k (.tuple #[]) (put w r o) := by
  obtain ⟨o, h1, h2⟩ := run_delete (P := pg) (t := 81) (V := 85) (ty := 0) (ats := #[81, 3]) rfl (by kernel_rfl) keys_map_int_p_session_conn h a
  exact ⟨o, h1, fun k => Run_ok h2⟩
theorem len_map_int_p_session_conn {r : Nat} {l : List (Int × Value)} {w : World} (h : MapIs (fun n : Int => Value.int .i64 n) (hp w r) l) (ty : TypeId) (k : Cont) : b_len #[81] ty #[.map (some r)] k w = k (I l.length) w := Run_ok (run_lenMap (P := pg) (t := 81) (K := 3) (V := 85) (key := (fun n : Int => Value.int .i64 n)) rfl (by kernel_rfl) h)
theorem lenq_map_int_p_session_conn {r : Nat} {l : List (Int × Value)} {w : World} (h : MapIs (fun n : Int => Value.int .i64 n) (hp w r) l) (ty : TypeId) (k : Value → Prop) : b_lenq #[81] ty #[.map (some r)] k w = k (I l.length) := RunQ_ok (run_lenMap (P := pg) (t := 81) (K := 3) (V := 85) (key := (fun n : Int => Value.int .i64 n)) rfl (by kernel_rfl) h)
theorem keys_map_uint64_p_session_session : Keys pg 23 (fun n : Int => Value.int .u64 n) := keys_int (kd' := .u64) (by kernel_rfl)
theorem lk_map_uint64_p_session_session {r : Nat} {l : List (Int × Value)} {w : World} (h : MapIs (fun n : Int => Value.int .u64 n) (hp w r) l) (a : Int) (k : Cont) : lk 82 (.map (some r)) (.int .u64 a) false k w = k ((getM l a).getD (.pointer none)) w := Run_ok (run_lookup (P := pg) (V := 86) (by kernel_rfl) keys_map_uint64_p_session_session (by kernel_rfl) h a false)
theorem lkq_map_uint64_p_session_session {r : Nat} {l : List (Int × Value)} {w : World} (h : MapIs (fun n : Int => Value.int .u64 n) (hp w r) l) (a : Int) (k : Value → Prop) : lkq 82 (.map (some r)) (.int .u64 a) false k w = k ((getM l a).getD (.pointer none)) := RunQ_ok (run_lookup (P := pg) (V := 86) (by kernel_rfl) keys_map_uint64_p_session_session (by kernel_rfl) h a false)
theorem lko_map_uint64_p_session_session {r : Nat} {l : List (Int × Value)} {w : World} (h : MapIs (fun n : Int => Value.int .u64 n) (hp w r) l) (a : Int) (k : Cont) : lk 82 (.map (some r)) (.int .u64 a) true k w = k (.tuple #[(getM l a).getD (.pointer none), .bool (getM l a).isSome]) w := Run_ok (run_lookup (P := pg) (V := 86) (by kernel_rfl) keys_map_uint64_p_session_session (by kernel_rfl) h a true)
theorem mu_map_uint64_p_session_session {r : Nat} {l : List (Int × Value)} {w : World} (h : MapIs (fun n : Int => Value.int .u64 n) (hp w r) l) (a : Int) (v : Value) : ∃ o, MapIs (fun n : Int => Value.int .u64 n) (some o) (setM l a v) ∧ ∀ k : Cont, mu 82 (.map (some r)) (.int .u64 a) v k w = k undef (put w r o) := by
  obtain ⟨o, h1, h2⟩ := run_mapUpdate (P := pg) (t := 82) (V := 86) (by kernel_rfl) keys_map_uint64_p_session_session h a v
  exact ⟨o, h1, fun k => Run_ok h2⟩
theorem me_map_uint64_p_session_session {r : Nat} {l : List (Int × Value)} {w : World} (h : MapIs (fun n : Int => Value.int .u64 n) (hp w r) l) (a : Int) (hn : getM l a = none) : ∃ o n, MapIs (fun n : Int => Value.int .u64 n) (some o) (setM l a (.pointer none)) ∧ StampIs (fun n : Int => Value.int .u64 n) (some o) a n ∧ ∀ k : Cont, me 82 (.map (some r)) (.int .u64 a) k w = k (.tuple #[(.pointer none), I n]) (put w r o) := by
  obtain ⟨o, n, h1, h2, h3⟩ := run_mapEntry (P := pg) (t := 82) (V := 86) (by kernel_rfl) keys_map_uint64_p_session_session (by kernel_rfl) h a hn
  exact ⟨o, n, h1, h2, fun k => Run_ok h3⟩
theorem es_map_uint64_p_session_session {r : Nat} {l : List (Int × Value)} {w : World} (h : MapIs (fun n : Int => Value.int .u64 n) (hp w r) l) (hl : (l.map (·.1)).Nodup) (a : Int) (n : Int) (hs : StampIs (fun n : Int => Value.int .u64 n) (hp w r) a n) (v : Value) : ∃ o, MapIs (fun n : Int => Value.int .u64 n) (some o) (setM l a v) ∧ ∀ k : Cont, es 82 (.map (some r)) (I n) v k w = k undef (put w r o) := by
  obtain ⟨o, h1, h2⟩ := run_entryStore (P := pg) (t := 82) (by intro a b h; injection h) hl h a n hs v
  exact ⟨o, h1, fun k => Run_ok h2⟩
theorem del_map_uint64_p_session_session {r : Nat} {l : List (Int × Value)} {w : World} (h : MapIs (fun n : Int => Value.int .u64 n) (hp w r) l) (a : Int) : ∃ o, MapIs (fun n : Int => Value.int .u64 n) (some o) (delM l a) ∧ ∀ k : Cont, b_delete #[82, 23] 0 #[.map (some r), (.int .u64 a)] k w = k (.tuple #[]) (put w r o) := by
  obtain ⟨o, h1, h2⟩ := run_delete (P := pg) (t := 82) (V := 86) (ty := 0) (ats := #[82, 23]) rfl (by kernel_rfl) keys_map_uint64_p_session_session h a
  exact ⟨o, h1, fun k => Run_ok h2⟩
theorem len_map_uint64_p_session_session {r : Nat} {l : List (Int × Value)} {w : World} (h : MapIs (fun n : Int => Value.int .u64 n) (hp w r) l) (ty : TypeId) (k : Cont) : b_len #[82] ty #[.map (some r)] k w = k (I l.length) w := Run_ok (run_lenMap (P := pg) (t := 82) (K := 23) (V := 86) (key := (fun n : Int => Value.int .u64 n)) rfl (by kernel_rfl) h)
theorem lenq_map_uint64_p_session_session {r : Nat} {l : List (Int × Value)} {w : World} (h : MapIs (fun n : Int => Value.int .u64 n) (hp w r) l) (ty : TypeId) (k : Value → Prop) : b_lenq #[82] ty #[.map (some r)] k w = k (I l.length) := RunQ_ok (run_lenMap (P := pg) (t := 82) (K := 23) (V := 86) (key := (fun n : Int => Value.int .u64 n)) rfl (by kernel_rfl) h)
@[simp] theorem al_func_string_bool (k : Cont) (w : World) : al 103 k w = natK (fun n => k (pt n 0) (w.alloc (.cells #[Value.nilFunc] 103))) w.heap.size := by kernel_rfl
@[simp] theorem al_lodestarref18_Session (k : Cont) (w : World) : al 116 k w = natK (fun n => k (pt n 0) (w.alloc (.cells #[(.int .u64 0), (.int .u32 0), (.slice none 0 0), (.int .i64 0), (.int .i64 0), (.int .i64 0), (.int .i64 0), (.bool false), (.int .i64 0), (.int .u32 0)] 116))) w.heap.size := by kernel_rfl
@[simp] theorem al_api_Filter (k : Cont) (w : World) : al 32 k w = natK (fun n => k (pt n 0) (w.alloc (.cells #[(.slice none 0 0), (.slice none 0 0), (.slice none 0 0)] 32))) w.heap.size := by kernel_rfl
@[simp] theorem al_api_Message (k : Cont) (w : World) : al 37 k w = natK (fun n => k (pt n 0) (w.alloc (.cells #[(.int .u8 0), (.int .u32 0), (.int .u32 0), (.int .u64 0), (.int .u8 0), (.int .u32 0), (.string ⟨#[]⟩), (.string ⟨#[]⟩), (.int .u8 0), (.int .u8 0), (.bool false), (.int .u8 0), (.int .u16 0), (.slice none 0 0), (.int .u32 0), (.slice none 0 0), (.int .u16 0), (.int .u16 0), (.slice none 0 0), (.slice none 0 0), (.slice none 0 0), (.int .u32 0), (.int .u32 0), (.slice none 0 0), (.int .u64 0), (.slice none 0 0), (.slice none 0 0), (.slice none 0 0)] 37))) w.heap.size := by kernel_rfl
@[simp] theorem al_api_Turn (k : Cont) (w : World) : al 45 k w = natK (fun n => k (pt n 0) (w.alloc (.cells #[(.slice none 0 0), (.slice none 0 0), (.bool false), (.int .u64 0)] 45))) w.heap.size := by kernel_rfl
@[simp] theorem bd_2_uint64_0_1 (x0 : Int) (x1 : Int) (k : Cont) (w : World) : bd 120 #[(0, (.int .u64 x0)), (1, (.int .u64 x1))] k w = k (.agg #[(.int .u64 x0), (.int .u64 x1)]) w := by kernel_rfl
@[simp] theorem bd_2_uint64_0_1q (x0 : Int) (x1 : Int) (k : Value → Prop) (w : World) : bdq 120 #[(0, (.int .u64 x0)), (1, (.int .u64 x1))] k w = k (.agg #[(.int .u64 x0), (.int .u64 x1)]) := RunQ_ok (by kernel_rfl)
@[simp] theorem bd_api_Filter_  (k : Cont) (w : World) : bd 32 #[] k w = k (.agg #[(.slice none 0 0), (.slice none 0 0), (.slice none 0 0)]) w := by kernel_rfl
@[simp] theorem bd_api_Filter_q  (k : Value → Prop) (w : World) : bdq 32 #[] k w = k (.agg #[(.slice none 0 0), (.slice none 0 0), (.slice none 0 0)]) := RunQ_ok (by kernel_rfl)
@[simp] theorem bd_api_Filter_0_1 (x0 : Option Addr) (x01 x02 : Nat) (x1 : Option Addr) (x11 x12 : Nat) (k : Cont) (w : World) : bd 32 #[(0, (.slice x0 x01 x02)), (1, (.slice x1 x11 x12))] k w = k (.agg #[(.slice x0 x01 x02), (.slice x1 x11 x12), (.slice none 0 0)]) w := by kernel_rfl
@[simp] theorem bd_api_Filter_0_1q (x0 : Option Addr) (x01 x02 : Nat) (x1 : Option Addr) (x11 x12 : Nat) (k : Value → Prop) (w : World) : bdq 32 #[(0, (.slice x0 x01 x02)), (1, (.slice x1 x11 x12))] k w = k (.agg #[(.slice x0 x01 x02), (.slice x1 x11 x12), (.slice none 0 0)]) := RunQ_ok (by kernel_rfl)
@[simp] theorem bd_api_Filter_0_1_2 (x0 : Option Addr) (x01 x02 : Nat) (x1 : Option Addr) (x11 x12 : Nat) (x2 : Option Addr) (x21 x22 : Nat) (k : Cont) (w : World) : bd 32 #[(0, (.slice x0 x01 x02)), (1, (.slice x1 x11 x12)), (2, (.slice x2 x21 x22))] k w = k (.agg #[(.slice x0 x01 x02), (.slice x1 x11 x12), (.slice x2 x21 x22)]) w := by kernel_rfl
@[simp] theorem bd_api_Filter_0_1_2q (x0 : Option Addr) (x01 x02 : Nat) (x1 : Option Addr) (x11 x12 : Nat) (x2 : Option Addr) (x21 x22 : Nat) (k : Value → Prop) (w : World) : bdq 32 #[(0, (.slice x0 x01 x02)), (1, (.slice x1 x11 x12)), (2, (.slice x2 x21 x22))] k w = k (.agg #[(.slice x0 x01 x02), (.slice x1 x11 x12), (.slice x2 x21 x22)]) := RunQ_ok (by kernel_rfl)
@[simp] theorem bd_api_Message_  (k : Cont) (w : World) : bd 37 #[] k w = k (.agg #[(.int .u8 0), (.int .u32 0), (.int .u32 0), (.int .u64 0), (.int .u8 0), (.int .u32 0), (.string ⟨#[]⟩), (.string ⟨#[]⟩), (.int .u8 0), (.int .u8 0), (.bool false), (.int .u8 0), (.int .u16 0), (.slice none 0 0), (.int .u32 0), (.slice none 0 0), (.int .u16 0), (.int .u16 0), (.slice none 0 0), (.slice none 0 0), (.slice none 0 0), (.int .u32 0), (.int .u32 0), (.slice none 0 0), (.int .u64 0), (.slice none 0 0), (.slice none 0 0), (.slice none 0 0)]) w := by kernel_rfl
@[simp] theorem bd_api_Message_q  (k : Value → Prop) (w : World) : bdq 37 #[] k w = k (.agg #[(.int .u8 0), (.int .u32 0), (.int .u32 0), (.int .u64 0), (.int .u8 0), (.int .u32 0), (.string ⟨#[]⟩), (.string ⟨#[]⟩), (.int .u8 0), (.int .u8 0), (.bool false), (.int .u8 0), (.int .u16 0), (.slice none 0 0), (.int .u32 0), (.slice none 0 0), (.int .u16 0), (.int .u16 0), (.slice none 0 0), (.slice none 0 0), (.slice none 0 0), (.int .u32 0), (.int .u32 0), (.slice none 0 0), (.int .u64 0), (.slice none 0 0), (.slice none 0 0), (.slice none 0 0)]) := RunQ_ok (by kernel_rfl)
@[simp] theorem bd_api_Message_0 (x0 : Int) (k : Cont) (w : World) : bd 37 #[(0, (.int .u8 x0))] k w = k (.agg #[(.int .u8 x0), (.int .u32 0), (.int .u32 0), (.int .u64 0), (.int .u8 0), (.int .u32 0), (.string ⟨#[]⟩), (.string ⟨#[]⟩), (.int .u8 0), (.int .u8 0), (.bool false), (.int .u8 0), (.int .u16 0), (.slice none 0 0), (.int .u32 0), (.slice none 0 0), (.int .u16 0), (.int .u16 0), (.slice none 0 0), (.slice none 0 0), (.slice none 0 0), (.int .u32 0), (.int .u32 0), (.slice none 0 0), (.int .u64 0), (.slice none 0 0), (.slice none 0 0), (.slice none 0 0)]) w := by kernel_rfl
@[simp] theorem bd_api_Message_0q (x0 : Int) (k : Value → Prop) (w : World) : bdq 37 #[(0, (.int .u8 x0))] k w = k (.agg #[(.int .u8 x0), (.int .u32 0), (.int .u32 0), (.int .u64 0), (.int .u8 0), (.int .u32 0), (.string ⟨#[]⟩), (.string ⟨#[]⟩), (.int .u8 0), (.int .u8 0), (.bool false), (.int .u8 0), (.int .u16 0), (.slice none 0 0), (.int .u32 0), (.slice none 0 0), (.int .u16 0), (.int .u16 0), (.slice none 0 0), (.slice none 0 0), (.slice none 0 0), (.int .u32 0), (.int .u32 0), (.slice none 0 0), (.int .u64 0), (.slice none 0 0), (.slice none 0 0), (.slice none 0 0)]) := RunQ_ok (by kernel_rfl)
@[simp] theorem bd_api_Message_0_1 (x0 : Int) (x1 : Int) (k : Cont) (w : World) : bd 37 #[(0, (.int .u8 x0)), (1, (.int .u32 x1))] k w = k (.agg #[(.int .u8 x0), (.int .u32 x1), (.int .u32 0), (.int .u64 0), (.int .u8 0), (.int .u32 0), (.string ⟨#[]⟩), (.string ⟨#[]⟩), (.int .u8 0), (.int .u8 0), (.bool false), (.int .u8 0), (.int .u16 0), (.slice none 0 0), (.int .u32 0), (.slice none 0 0), (.int .u16 0), (.int .u16 0), (.slice none 0 0), (.slice none 0 0), (.slice none 0 0), (.int .u32 0), (.int .u32 0), (.slice none 0 0), (.int .u64 0), (.slice none 0 0), (.slice none 0 0), (.slice none 0 0)]) w := by kernel_rfl
@[simp] theorem bd_api_Message_0_1q (x0 : Int) (x1 : Int) (k : Value → Prop) (w : World) : bdq 37 #[(0, (.int .u8 x0)), (1, (.int .u32 x1))] k w = k (.agg #[(.int .u8 x0), (.int .u32 x1), (.int .u32 0), (.int .u64 0), (.int .u8 0), (.int .u32 0), (.string ⟨#[]⟩), (.string ⟨#[]⟩), (.int .u8 0), (.int .u8 0), (.bool false), (.int .u8 0), (.int .u16 0), (.slice none 0 0), (.int .u32 0), (.slice none 0 0), (.int .u16 0), (.int .u16 0), (.slice none 0 0), (.slice none 0 0), (.slice none 0 0), (.int .u32 0), (.int .u32 0), (.slice none 0 0), (.int .u64 0), (.slice none 0 0), (.slice none 0 0), (.slice none 0 0)]) := RunQ_ok (by kernel_rfl)
@[simp] theorem bd_api_Message_0_1_14 (x0 : Int) (x1 : Int) (x2 : Int) (k : Cont) (w : World) : bd 37 #[(0, (.int .u8 x0)), (1, (.int .u32 x1)), (14, (.int .u32 x2))] k w = k (.agg #[(.int .u8 x0), (.int .u32 x1), (.int .u32 0), (.int .u64 0), (.int .u8 0), (.int .u32 0), (.string ⟨#[]⟩), (.string ⟨#[]⟩), (.int .u8 0), (.int .u8 0), (.bool false), (.int .u8 0), (.int .u16 0), (.slice none 0 0), (.int .u32 0), (.slice none 0 0), (.int .u16 0), (.int .u16 0), (.slice none 0 0), (.slice none 0 0), (.slice none 0 0), (.int .u32 x2), (.int .u32 0), (.slice none 0 0), (.int .u64 0), (.slice none 0 0), (.slice none 0 0), (.slice none 0 0)]) w := by kernel_rfl
@[simp] theorem bd_api_Message_0_1_14q (x0 : Int) (x1 : Int) (x2 : Int) (k : Value → Prop) (w : World) : bdq 37 #[(0, (.int .u8 x0)), (1, (.int .u32 x1)), (14, (.int .u32 x2))] k w = k (.agg #[(.int .u8 x0), (.int .u32 x1), (.int .u32 0), (.int .u64 0), (.int .u8 0), (.int .u32 0), (.string ⟨#[]⟩), (.string ⟨#[]⟩), (.int .u8 0), (.int .u8 0), (.bool false), (.int .u8 0), (.int .u16 0), (.slice none 0 0), (.int .u32 0), (.slice none 0 0), (.int .u16 0), (.int .u16 0), (.slice none 0 0), (.slice none 0 0), (.slice none 0 0), (.int .u32 x2), (.int .u32 0), (.slice none 0 0), (.int .u64 0), (.slice none 0 0), (.slice none 0 0), (.slice none 0 0)]) := RunQ_ok (by kernel_rfl)
@[simp] theorem bd_api_Message_0_1_4 (x0 : Int) (x1 : Int) (x2 : Int) (k : Cont) (w : World) : bd 37 #[(0, (.int .u8 x0)), (1, (.int .u32 x1)), (4, (.int .u8 x2))] k w = k (.agg #[(.int .u8 x0), (.int .u32 x1), (.int .u32 0), (.int .u64 0), (.int .u8 x2), (.int .u32 0), (.string ⟨#[]⟩), (.string ⟨#[]⟩), (.int .u8 0), (.int .u8 0), (.bool false), (.int .u8 0), (.int .u16 0), (.slice none 0 0), (.int .u32 0), (.slice none 0 0), (.int .u16 0), (.int .u16 0), (.slice none 0 0), (.slice none 0 0), (.slice none 0 0), (.int .u32 0), (.int .u32 0), (.slice none 0 0), (.int .u64 0), (.slice none 0 0), (.slice none 0 0), (.slice none 0 0)]) w := by kernel_rfl
@[simp] theorem bd_api_Message_0_1_4q (x0 : Int) (x1 : Int) (x2 : Int) (k : Value → Prop) (w : World) : bdq 37 #[(0, (.int .u8 x0)), (1, (.int .u32 x1)), (4, (.int .u8 x2))] k w = k (.agg #[(.int .u8 x0), (.int .u32 x1), (.int .u32 0), (.int .u64 0), (.int .u8 x2), (.int .u32 0), (.string ⟨#[]⟩), (.string ⟨#[]⟩), (.int .u8 0), (.int .u8 0), (.bool false), (.int .u8 0), (.int .u16 0), (.slice none 0 0), (.int .u32 0), (.slice none 0 0), (.int .u16 0), (.int .u16 0), (.slice none 0 0), (.slice none 0 0), (.slice none 0 0), (.int .u32 0), (.int .u32 0), (.slice none 0 0), (.int .u64 0), (.slice none 0 0), (.slice none 0 0), (.slice none 0 0)]) := RunQ_ok (by kernel_rfl)
@[simp] theorem bd_api_Message_0_2 (x0 : Int) (x1 : Int) (k : Cont) (w : World) : bd 37 #[(0, (.int .u8 x0)), (2, (.int .u32 x1))] k w = k (.agg #[(.int .u8 x0), (.int .u32 0), (.int .u32 x1), (.int .u64 0), (.int .u8 0), (.int .u32 0), (.string ⟨#[]⟩), (.string ⟨#[]⟩), (.int .u8 0), (.int .u8 0), (.bool false), (.int .u8 0), (.int .u16 0), (.slice none 0 0), (.int .u32 0), (.slice none 0 0), (.int .u16 0), (.int .u16 0), (.slice none 0 0), (.slice none 0 0), (.slice none 0 0), (.int .u32 0), (.int .u32 0), (.slice none 0 0), (.int .u64 0), (.slice none 0 0), (.slice none 0 0), (.slice none 0 0)]) w := by kernel_rfl
@[simp] theorem bd_api_Message_0_2q (x0 : Int) (x1 : Int) (k : Value → Prop) (w : World) : bdq 37 #[(0, (.int .u8 x0)), (2, (.int .u32 x1))] k w = k (.agg #[(.int .u8 x0), (.int .u32 0), (.int .u32 x1), (.int .u64 0), (.int .u8 0), (.int .u32 0), (.string ⟨#[]⟩), (.string ⟨#[]⟩), (.int .u8 0), (.int .u8 0), (.bool false), (.int .u8 0), (.int .u16 0), (.slice none 0 0), (.int .u32 0), (.slice none 0 0), (.int .u16 0), (.int .u16 0), (.slice none 0 0), (.slice none 0 0), (.slice none 0 0), (.int .u32 0), (.int .u32 0), (.slice none 0 0), (.int .u64 0), (.slice none 0 0), (.slice none 0 0), (.slice none 0 0)]) := RunQ_ok (by kernel_rfl)
@[simp] theorem bd_api_Message_0_2_3_5 (x0 : Int) (x1 : Int) (x2 : Int) (x3 : Int) (k : Cont) (w : World) : bd 37 #[(0, (.int .u8 x0)), (2, (.int .u32 x1)), (3, (.int .u64 x2)), (5, (.int .u32 x3))] k w = k (.agg #[(.int .u8 x0), (.int .u32 0), (.int .u32 x1), (.int .u64 x2), (.int .u8 0), (.int .u32 x3), (.string ⟨#[]⟩), (.string ⟨#[]⟩), (.int .u8 0), (.int .u8 0), (.bool false), (.int .u8 0), (.int .u16 0), (.slice none 0 0), (.int .u32 0), (.slice none 0 0), (.int .u16 0), (.int .u16 0), (.slice none 0 0), (.slice none 0 0), (.slice none 0 0), (.int .u32 0), (.int .u32 0), (.slice none 0 0), (.int .u64 0), (.slice none 0 0), (.slice none 0 0), (.slice none 0 0)]) w := by kernel_rfl
@[simp] theorem bd_api_Message_0_2_3_5q (x0 : Int) (x1 : Int) (x2 : Int) (x3 : Int) (k : Value → Prop) (w : World) : bdq 37 #[(0, (.int .u8 x0)), (2, (.int .u32 x1)), (3, (.int .u64 x2)), (5, (.int .u32 x3))] k w = k (.agg #[(.int .u8 x0), (.int .u32 0), (.int .u32 x1), (.int .u64 x2), (.int .u8 0), (.int .u32 x3), (.string ⟨#[]⟩), (.string ⟨#[]⟩), (.int .u8 0), (.int .u8 0), (.bool false), (.int .u8 0), (.int .u16 0), (.slice none 0 0), (.int .u32 0), (.slice none 0 0), (.int .u16 0), (.int .u16 0), (.slice none 0 0), (.slice none 0 0), (.slice none 0 0), (.int .u32 0), (.int .u32 0), (.slice none 0 0), (.int .u64 0), (.slice none 0 0), (.slice none 0 0), (.slice none 0 0)]) := RunQ_ok (by kernel_rfl)
@[simp] theorem bd_api_Message_0_3 (x0 : Int) (x1 : Int) (k : Cont) (w : World) : bd 37 #[(0, (.int .u8 x0)), (3, (.int .u64 x1))] k w = k (.agg #[(.int .u8 x0), (.int .u32 0), (.int .u32 0), (.int .u64 x1), (.int .u8 0), (.int .u32 0), (.string ⟨#[]⟩), (.string ⟨#[]⟩), (.int .u8 0), (.int .u8 0), (.bool false), (.int .u8 0), (.int .u16 0), (.slice none 0 0), (.int .u32 0), (.slice none 0 0), (.int .u16 0), (.int .u16 0), (.slice none 0 0), (.slice none 0 0), (.slice none 0 0), (.int .u32 0), (.int .u32 0), (.slice none 0 0), (.int .u64 0), (.slice none 0 0), (.slice none 0 0), (.slice none 0 0)]) w := by kernel_rfl
@[simp] theorem bd_api_Message_0_3q (x0 : Int) (x1 : Int) (k : Value → Prop) (w : World) : bdq 37 #[(0, (.int .u8 x0)), (3, (.int .u64 x1))] k w = k (.agg #[(.int .u8 x0), (.int .u32 0), (.int .u32 0), (.int .u64 x1), (.int .u8 0), (.int .u32 0), (.string ⟨#[]⟩), (.string ⟨#[]⟩), (.int .u8 0), (.int .u8 0), (.bool false), (.int .u8 0), (.int .u16 0), (.slice none 0 0), (.int .u32 0), (.slice none 0 0), (.int .u16 0), (.int .u16 0), (.slice none 0 0), (.slice none 0 0), (.slice none 0 0), (.int .u32 0), (.int .u32 0), (.slice none 0 0), (.int .u64 0), (.slice none 0 0), (.slice none 0 0), (.slice none 0 0)]) := RunQ_ok (by kernel_rfl)
@[simp] theorem bd_api_Message_0_4 (x0 : Int) (x1 : Int) (k : Cont) (w : World) : bd 37 #[(0, (.int .u8 x0)), (4, (.int .u8 x1))] k w = k (.agg #[(.int .u8 x0), (.int .u32 0), (.int .u32 0), (.int .u64 0), (.int .u8 x1), (.int .u32 0), (.string ⟨#[]⟩), (.string ⟨#[]⟩), (.int .u8 0), (.int .u8 0), (.bool false), (.int .u8 0), (.int .u16 0), (.slice none 0 0), (.int .u32 0), (.slice none 0 0), (.int .u16 0), (.int .u16 0), (.slice none 0 0), (.slice none 0 0), (.slice none 0 0), (.int .u32 0), (.int .u32 0), (.slice none 0 0), (.int .u64 0), (.slice none 0 0), (.slice none 0 0), (.slice none 0 0)]) w := by kernel_rfl
@[simp] theorem bd_api_Message_0_4q (x0 : Int) (x1 : Int) (k : Value → Prop) (w : World) : bdq 37 #[(0, (.int .u8 x0)), (4, (.int .u8 x1))] k w = k (.agg #[(.int .u8 x0), (.int .u32 0), (.int .u32 0), (.int .u64 0), (.int .u8 x1), (.int .u32 0), (.string ⟨#[]⟩), (.string ⟨#[]⟩), (.int .u8 0), (.int .u8 0), (.bool false), (.int .u8 0), (.int .u16 0), (.slice none 0 0), (.int .u32 0), (.slice none 0 0), (.int .u16 0), (.int .u16 0), (.slice none 0 0), (.slice none 0 0), (.slice none 0 0), (.int .u32 0), (.int .u32 0), (.slice none 0 0), (.int .u64 0), (.slice none 0 0), (.slice none 0 0), (.slice none 0 0)]) := RunQ_ok (by kernel_rfl)
@[simp] theorem bd_api_Message_0_5 (x0 : Int) (x1 : Int) (k : Cont) (w : World) : bd 37 #[(0, (.int .u8 x0)), (5, (.int .u32 x1))] k w = k (.agg #[(.int .u8 x0), (.int .u32 0), (.int .u32 0), (.int .u64 0), (.int .u8 0), (.int .u32 x1), (.string ⟨#[]⟩), (.string ⟨#[]⟩), (.int .u8 0), (.int .u8 0), (.bool false), (.int .u8 0), (.int .u16 0), (.slice none 0 0), (.int .u32 0), (.slice none 0 0), (.int .u16 0), (.int .u16 0), (.slice none 0 0), (.slice none 0 0), (.slice none 0 0), (.int .u32 0), (.int .u32 0), (.slice none 0 0), (.int .u64 0), (.slice none 0 0), (.slice none 0 0), (.slice none 0 0)]) w := by kernel_rfl
@[simp] theorem bd_api_Message_0_5q (x0 : Int) (x1 : Int) (k : Value → Prop) (w : World) : bdq 37 #[(0, (.int .u8 x0)), (5, (.int .u32 x1))] k w = k (.agg #[(.int .u8 x0), (.int .u32 0), (.int .u32 0), (.int .u64 0), (.int .u8 0), (.int .u32 x1), (.string ⟨#[]⟩), (.string ⟨#[]⟩), (.int .u8 0), (.int .u8 0), (.bool false), (.int .u8 0), (.int .u16 0), (.slice none 0 0), (.int .u32 0), (.slice none 0 0), (.int .u16 0), (.int .u16 0), (.slice none 0 0), (.slice none 0 0), (.slice none 0 0), (.int .u32 0), (.int .u32 0), (.slice none 0 0), (.int .u64 0), (.slice none 0 0), (.slice none 0 0), (.slice none 0 0)]) := RunQ_ok (by kernel_rfl)
@[simp] theorem bd_api_Turn_  (k : Cont) (w : World) : bd 45 #[] k w = k (.agg #[(.slice none 0 0), (.slice none 0 0), (.bool false), (.int .u64 0)]) w := by kernel_rfl
@[simp] theorem bd_api_Turn_q  (k : Value → Prop) (w : World) : bdq 45 #[] k w = k (.agg #[(.slice none 0 0), (.slice none 0 0), (.bool false), (.int .u64 0)]) := RunQ_ok (by kernel_rfl)
@[simp] theorem bd_api_Turn_0 (x0 : Option Addr) (x01 x02 : Nat) (k : Cont) (w : World) : bd 45 #[(0, (.slice x0 x01 x02))] k w = k (.agg #[(.slice x0 x01 x02), (.slice none 0 0), (.bool false), (.int .u64 0)]) w := by kernel_rfl
@[simp] theorem bd_api_Turn_0q (x0 : Option Addr) (x01 x02 : Nat) (k : Value → Prop) (w : World) : bdq 45 #[(0, (.slice x0 x01 x02))] k w = k (.agg #[(.slice x0 x01 x02), (.slice none 0 0), (.bool false), (.int .u64 0)]) := RunQ_ok (by kernel_rfl)
@[simp] theorem bd_api_Turn_0_1 (x0 : Option Addr) (x01 x02 : Nat) (x1 : Option Addr) (x11 x12 : Nat) (k : Cont) (w : World) : bd 45 #[(0, (.slice x0 x01 x02)), (1, (.slice x1 x11 x12))] k w = k (.agg #[(.slice x0 x01 x02), (.slice x1 x11 x12), (.bool false), (.int .u64 0)]) w := by kernel_rfl
@[simp] theorem bd_api_Turn_0_1q (x0 : Option Addr) (x01 x02 : Nat) (x1 : Option Addr) (x11 x12 : Nat) (k : Value → Prop) (w : World) : bdq 45 #[(0, (.slice x0 x01 x02)), (1, (.slice x1 x11 x12))] k w = k (.agg #[(.slice x0 x01 x02), (.slice x1 x11 x12), (.bool false), (.int .u64 0)]) := RunQ_ok (by kernel_rfl)
@[simp] theorem bd_api_Turn_1 (x0 : Option Addr) (x01 x02 : Nat) (k : Cont) (w : World) : bd 45 #[(1, (.slice x0 x01 x02))] k w = k (.agg #[(.slice none 0 0), (.slice x0 x01 x02), (.bool false), (.int .u64 0)]) w := by kernel_rfl
@[simp] theorem bd_api_Turn_1q (x0 : Option Addr) (x01 x02 : Nat) (k : Value → Prop) (w : World) : bdq 45 #[(1, (.slice x0 x01 x02))] k w = k (.agg #[(.slice none 0 0), (.slice x0 x01 x02), (.bool false), (.int .u64 0)]) := RunQ_ok (by kernel_rfl)
@[simp] theorem bd_api_Turn_2_3 (x0 : Bool) (x1 : Int) (k : Cont) (w : World) : bd 45 #[(2, (.bool x0)), (3, (.int .u64 x1))] k w = k (.agg #[(.slice none 0 0), (.slice none 0 0), (.bool x0), (.int .u64 x1)]) w := by kernel_rfl
@[simp] theorem bd_api_Turn_2_3q (x0 : Bool) (x1 : Int) (k : Value → Prop) (w : World) : bdq 45 #[(2, (.bool x0)), (3, (.int .u64 x1))] k w = k (.agg #[(.slice none 0 0), (.slice none 0 0), (.bool x0), (.int .u64 x1)]) := RunQ_ok (by kernel_rfl)
@[simp] theorem bd_credit_Window_0 (x0 : Int) (k : Cont) (w : World) : bd 134 #[(0, (.int .u32 x0))] k w = k (.agg #[(.int .u32 x0), (.int .u32 0)]) w := by kernel_rfl
@[simp] theorem bd_credit_Window_0q (x0 : Int) (k : Value → Prop) (w : World) : bdq 134 #[(0, (.int .u32 x0))] k w = k (.agg #[(.int .u32 x0), (.int .u32 0)]) := RunQ_ok (by kernel_rfl)
@[simp] theorem bd_dedup_Table_2 (x0 : Option Nat) (k : Cont) (w : World) : bd 128 #[(2, (.map x0))] k w = k (.agg #[(.int .u32 0), (.int .u32 0), (.map x0)]) w := by kernel_rfl
@[simp] theorem bd_dedup_Table_2q (x0 : Option Nat) (k : Value → Prop) (w : World) : bdq 128 #[(2, (.map x0))] k w = k (.agg #[(.int .u32 0), (.int .u32 0), (.map x0)]) := RunQ_ok (by kernel_rfl)
@[simp] theorem bd_lodestarlaw18_Both_0_1 (x0 : Option Addr) (x1 : Option Addr) (k : Cont) (w : World) : bd 72 #[(0, (.pointer x0)), (1, (.pointer x1))] k w = k (.agg #[(.pointer x0), (.pointer x1), (.int .u32 0), (.slice none 0 0)]) w := by kernel_rfl
@[simp] theorem bd_lodestarlaw18_Both_0_1q (x0 : Option Addr) (x1 : Option Addr) (k : Value → Prop) (w : World) : bdq 72 #[(0, (.pointer x0)), (1, (.pointer x1))] k w = k (.agg #[(.pointer x0), (.pointer x1), (.int .u32 0), (.slice none 0 0)]) := RunQ_ok (by kernel_rfl)
@[simp] theorem bd_lodestarref17_Window_0 (x0 : Int) (k : Cont) (w : World) : bd 114 #[(0, (.int .i64 x0))] k w = k (.agg #[(.int .i64 x0), (.int .i64 0), (.int .i64 0)]) w := by kernel_rfl
@[simp] theorem bd_lodestarref17_Window_0q (x0 : Int) (k : Value → Prop) (w : World) : bdq 114 #[(0, (.int .i64 x0))] k w = k (.agg #[(.int .i64 x0), (.int .i64 0), (.int .i64 0)]) := RunQ_ok (by kernel_rfl)
@[simp] theorem bd_lodestarref18_Hub_0_1_2 (x0 : Int) (x1 : Int) (x2 : Int) (k : Cont) (w : World) : bd 75 #[(0, (.int .u32 x0)), (1, (.int .i64 x1)), (2, (.int .u32 x2))] k w = k (.agg #[(.int .u32 x0), (.int .i64 x1), (.int .u32 x2), (.slice none 0 0), (.slice none 0 0), (.int .u64 0)]) w := by kernel_rfl
@[simp] theorem bd_lodestarref18_Hub_0_1_2q (x0 : Int) (x1 : Int) (x2 : Int) (k : Value → Prop) (w : World) : bdq 75 #[(0, (.int .u32 x0)), (1, (.int .i64 x1)), (2, (.int .u32 x2))] k w = k (.agg #[(.int .u32 x0), (.int .i64 x1), (.int .u32 x2), (.slice none 0 0), (.slice none 0 0), (.int .u64 0)]) := RunQ_ok (by kernel_rfl)
@[simp] theorem bd_lodestarref18_Session_0_1_3_4_5 (x0 : Int) (x1 : Int) (x2c0 x2c1 x2c2 : Value) (x3 : Bool) (x4 : Int) (k : Cont) (w : World) : bd 116 #[(0, (.int .u64 x0)), (1, (.int .u32 x1)), (3, (.agg #[x2c0, x2c1, x2c2])), (4, (.bool x3)), (5, (.int .i64 x4))] k w = k (.agg #[(.int .u64 x0), (.int .u32 x1), (.slice none 0 0), (.int .i64 0), x2c0, x2c1, x2c2, (.bool x3), (.int .i64 x4), (.int .u32 0)]) w := by kernel_rfl
@[simp] theorem bd_lodestarref18_Session_0_1_3_4_5q (x0 : Int) (x1 : Int) (x2c0 x2c1 x2c2 : Value) (x3 : Bool) (x4 : Int) (k : Value → Prop) (w : World) : bdq 116 #[(0, (.int .u64 x0)), (1, (.int .u32 x1)), (3, (.agg #[x2c0, x2c1, x2c2])), (4, (.bool x3)), (5, (.int .i64 x4))] k w = k (.agg #[(.int .u64 x0), (.int .u32 x1), (.slice none 0 0), (.int .i64 0), x2c0, x2c1, x2c2, (.bool x3), (.int .i64 x4), (.int .u32 0)]) := RunQ_ok (by kernel_rfl)
@[simp] theorem bd_session_Hub_0_1_2_3_4 (x0 : Int) (x1 : Int) (x2 : Int) (x3 : Option Nat) (x4 : Option Nat) (k : Cont) (w : World) : bd 84 #[(0, (.int .u32 x0)), (1, (.int .i64 x1)), (2, (.int .u32 x2)), (3, (.map x3)), (4, (.map x4))] k w = k (.agg #[(.int .u32 x0), (.int .i64 x1), (.int .u32 x2), (.map x3), (.map x4), (.int .u64 0)]) w := by kernel_rfl
@[simp] theorem bd_session_Hub_0_1_2_3_4q (x0 : Int) (x1 : Int) (x2 : Int) (x3 : Option Nat) (x4 : Option Nat) (k : Value → Prop) (w : World) : bdq 84 #[(0, (.int .u32 x0)), (1, (.int .i64 x1)), (2, (.int .u32 x2)), (3, (.map x3)), (4, (.map x4))] k w = k (.agg #[(.int .u32 x0), (.int .i64 x1), (.int .u32 x2), (.map x3), (.map x4), (.int .u64 0)]) := RunQ_ok (by kernel_rfl)
@[simp] theorem bd_session_conn_0 (x0 : Int) (k : Cont) (w : World) : bd 88 #[(0, (.int .i64 x0))] k w = k (.agg #[(.int .i64 x0), (.pointer none)]) w := by kernel_rfl
@[simp] theorem bd_session_conn_0q (x0 : Int) (k : Value → Prop) (w : World) : bdq 88 #[(0, (.int .i64 x0))] k w = k (.agg #[(.int .i64 x0), (.pointer none)]) := RunQ_ok (by kernel_rfl)
@[simp] theorem bd_session_session_0_1_2_3_4 (x0 : Int) (x1 : Int) (x2 : Option Addr) (x3 : Option Addr) (x4 : Option Addr) (k : Cont) (w : World) : bd 94 #[(0, (.int .u64 x0)), (1, (.int .u32 x1)), (2, (.pointer x2)), (3, (.pointer x3)), (4, (.pointer x4))] k w = k (.agg #[(.int .u64 x0), (.int .u32 x1), (.pointer x2), (.pointer x3), (.pointer x4), (.int .u32 0)]) w := by kernel_rfl
@[simp] theorem bd_session_session_0_1_2_3_4q (x0 : Int) (x1 : Int) (x2 : Option Addr) (x3 : Option Addr) (x4 : Option Addr) (k : Value → Prop) (w : World) : bdq 94 #[(0, (.int .u64 x0)), (1, (.int .u32 x1)), (2, (.pointer x2)), (3, (.pointer x3)), (4, (.pointer x4))] k w = k (.agg #[(.int .u64 x0), (.int .u32 x1), (.pointer x2), (.pointer x3), (.pointer x4), (.int .u32 0)]) := RunQ_ok (by kernel_rfl)
@[simp] theorem bo_eql_bool (a b : Bool) (k : Cont) (w : World) : bo .eql 4 (.bool a) (.bool b) k w = k (.bool (a == b)) w := Run_ok (by kernel_rfl)
@[simp] theorem qbo_eql_bool (a b : Bool) (k : Value → Prop) (w : World) : boq .eql 4 (.bool a) (.bool b) k w = k (.bool (a == b)) := RunQ_ok (by kernel_rfl)
@[simp] theorem bo_eql_p_session_Hub_nn  (k : Cont) (w : World) : bo .eql 40 (.pointer none) (.pointer none) k w = k (.bool true) w := Run_ok (by kernel_rfl)
@[simp] theorem qbo_eql_p_session_Hub_nn  (k : Value → Prop) (w : World) : boq .eql 40 (.pointer none) (.pointer none) k w = k (.bool true) := RunQ_ok (by kernel_rfl)
@[simp] theorem bo_eql_p_session_Hub_ns (a : Addr) (k : Cont) (w : World) : bo .eql 40 (.pointer none) (.pointer (some a)) k w = k (.bool false) w := Run_ok (by kernel_rfl)
@[simp] theorem qbo_eql_p_session_Hub_ns (a : Addr) (k : Value → Prop) (w : World) : boq .eql 40 (.pointer none) (.pointer (some a)) k w = k (.bool false) := RunQ_ok (by kernel_rfl)
@[simp] theorem bo_eql_p_session_Hub_sn (a : Addr) (k : Cont) (w : World) : bo .eql 40 (.pointer (some a)) (.pointer none) k w = k (.bool false) w := Run_ok (by kernel_rfl)
@[simp] theorem qbo_eql_p_session_Hub_sn (a : Addr) (k : Value → Prop) (w : World) : boq .eql 40 (.pointer (some a)) (.pointer none) k w = k (.bool false) := RunQ_ok (by kernel_rfl)
@[simp] theorem bo_eql_p_session_conn_nn  (k : Cont) (w : World) : bo .eql 85 (.pointer none) (.pointer none) k w = k (.bool true) w := Run_ok (by kernel_rfl)
@[simp] theorem qbo_eql_p_session_conn_nn  (k : Value → Prop) (w : World) : boq .eql 85 (.pointer none) (.pointer none) k w = k (.bool true) := RunQ_ok (by kernel_rfl)
@[simp] theorem bo_eql_p_session_conn_ns (a : Addr) (k : Cont) (w : World) : bo .eql 85 (.pointer none) (.pointer (some a)) k w = k (.bool false) w := Run_ok (by kernel_rfl)
@[simp] theorem qbo_eql_p_session_conn_ns (a : Addr) (k : Value → Prop) (w : World) : boq .eql 85 (.pointer none) (.pointer (some a)) k w = k (.bool false) := RunQ_ok (by kernel_rfl)
@[simp] theorem bo_eql_p_session_conn_sn (a : Addr) (k : Cont) (w : World) : bo .eql 85 (.pointer (some a)) (.pointer none) k w = k (.bool false) w := Run_ok (by kernel_rfl)
@[simp] theorem qbo_eql_p_session_conn_sn (a : Addr) (k : Value → Prop) (w : World) : boq .eql 85 (.pointer (some a)) (.pointer none) k w = k (.bool false) := RunQ_ok (by kernel_rfl)
@[simp] theorem bo_eql_p_session_session_nn  (k : Cont) (w : World) : bo .eql 86 (.pointer none) (.pointer none) k w = k (.bool true) w := Run_ok (by kernel_rfl)
@[simp] theorem qbo_eql_p_session_session_nn  (k : Value → Prop) (w : World) : boq .eql 86 (.pointer none) (.pointer none) k w = k (.bool true) := RunQ_ok (by kernel_rfl)
@[simp] theorem bo_eql_p_session_session_ns (a : Addr) (k : Cont) (w : World) : bo .eql 86 (.pointer none) (.pointer (some a)) k w = k (.bool false) w := Run_ok (by kernel_rfl)
@[simp] theorem qbo_eql_p_session_session_ns (a : Addr) (k : Value → Prop) (w : World) : boq .eql 86 (.pointer none) (.pointer (some a)) k w = k (.bool false) := RunQ_ok (by kernel_rfl)
@[simp] theorem bo_eql_p_session_session_sn (a : Addr) (k : Cont) (w : World) : bo .eql 86 (.pointer (some a)) (.pointer none) k w = k (.bool false) w := Run_ok (by kernel_rfl)
@[simp] theorem qbo_eql_p_session_session_sn (a : Addr) (k : Value → Prop) (w : World) : boq .eql 86 (.pointer (some a)) (.pointer none) k w = k (.bool false) := RunQ_ok (by kernel_rfl)
@[simp] theorem bo_eql_string (a b : ByteArray) (k : Cont) (w : World) : bo .eql 9 (.string a) (.string b) k w = k (.bool (a.toList == b.toList)) w := Run_ok (by kernel_rfl)
@[simp] theorem qbo_eql_string (a b : ByteArray) (k : Value → Prop) (w : World) : boq .eql 9 (.string a) (.string b) k w = k (.bool (a.toList == b.toList)) := RunQ_ok (by kernel_rfl)
@[simp] theorem bo_leq_string (a b : ByteArray) (k : Cont) (w : World) : bo .leq 9 (.string a) (.string b) k w = k (.bool ((Op.bytesLess a.toList b.toList || a.toList == b.toList))) w := Run_ok (by kernel_rfl)
@[simp] theorem qbo_leq_string (a b : ByteArray) (k : Value → Prop) (w : World) : boq .leq 9 (.string a) (.string b) k w = k (.bool ((Op.bytesLess a.toList b.toList || a.toList == b.toList))) := RunQ_ok (by kernel_rfl)
@[simp] theorem bo_neq_bool (a b : Bool) (k : Cont) (w : World) : bo .neq 4 (.bool a) (.bool b) k w = k (.bool (!(a == b))) w := Run_ok (by kernel_rfl)
@[simp] theorem qbo_neq_bool (a b : Bool) (k : Value → Prop) (w : World) : boq .neq 4 (.bool a) (.bool b) k w = k (.bool (!(a == b))) := RunQ_ok (by kernel_rfl)
@[simp] theorem bo_neq_p_session_conn_nn  (k : Cont) (w : World) : bo .neq 85 (.pointer none) (.pointer none) k w = k (.bool false) w := Run_ok (by kernel_rfl)
@[simp] theorem qbo_neq_p_session_conn_nn  (k : Value → Prop) (w : World) : boq .neq 85 (.pointer none) (.pointer none) k w = k (.bool false) := RunQ_ok (by kernel_rfl)
@[simp] theorem bo_neq_p_session_conn_ns (a : Addr) (k : Cont) (w : World) : bo .neq 85 (.pointer none) (.pointer (some a)) k w = k (.bool true) w := Run_ok (by kernel_rfl)
@[simp] theorem qbo_neq_p_session_conn_ns (a : Addr) (k : Value → Prop) (w : World) : boq .neq 85 (.pointer none) (.pointer (some a)) k w = k (.bool true) := RunQ_ok (by kernel_rfl)
@[simp] theorem bo_neq_p_session_conn_sn (a : Addr) (k : Cont) (w : World) : bo .neq 85 (.pointer (some a)) (.pointer none) k w = k (.bool true) w := Run_ok (by kernel_rfl)
@[simp] theorem qbo_neq_p_session_conn_sn (a : Addr) (k : Value → Prop) (w : World) : boq .neq 85 (.pointer (some a)) (.pointer none) k w = k (.bool true) := RunQ_ok (by kernel_rfl)
@[simp] theorem bo_neq_p_session_session_nn  (k : Cont) (w : World) : bo .neq 86 (.pointer none) (.pointer none) k w = k (.bool false) w := Run_ok (by kernel_rfl)
@[simp] theorem qbo_neq_p_session_session_nn  (k : Value → Prop) (w : World) : boq .neq 86 (.pointer none) (.pointer none) k w = k (.bool false) := RunQ_ok (by kernel_rfl)
@[simp] theorem bo_neq_p_session_session_ns (a : Addr) (k : Cont) (w : World) : bo .neq 86 (.pointer none) (.pointer (some a)) k w = k (.bool true) w := Run_ok (by kernel_rfl)
@[simp] theorem qbo_neq_p_session_session_ns (a : Addr) (k : Value → Prop) (w : World) : boq .neq 86 (.pointer none) (.pointer (some a)) k w = k (.bool true) := RunQ_ok (by kernel_rfl)
@[simp] theorem bo_neq_p_session_session_sn (a : Addr) (k : Cont) (w : World) : bo .neq 86 (.pointer (some a)) (.pointer none) k w = k (.bool true) w := Run_ok (by kernel_rfl)
@[simp] theorem qbo_neq_p_session_session_sn (a : Addr) (k : Value → Prop) (w : World) : boq .neq 86 (.pointer (some a)) (.pointer none) k w = k (.bool true) := RunQ_ok (by kernel_rfl)
@[simp] theorem bo_neq_string (a b : ByteArray) (k : Cont) (w : World) : bo .neq 9 (.string a) (.string b) k w = k (.bool (!(a.toList == b.toList))) w := Run_ok (by kernel_rfl)
@[simp] theorem qbo_neq_string (a b : ByteArray) (k : Value → Prop) (w : World) : boq .neq 9 (.string a) (.string b) k w = k (.bool (!(a.toList == b.toList))) := RunQ_ok (by kernel_rfl)
@[simp] theorem bs_s__2_uint64_1_0 (x0c0 x0c1 : Value) (k : Cont) (w : World) : bs 70 1 #[(0, (.agg #[x0c0, x0c1]))] k w = natK (fun n => k (.slice (some ⟨n, 0, none⟩) 1 1) (w.alloc (.cells #[x0c0, x0c1] 120))) w.heap.size := by kernel_rfl
@[simp] theorem bs_s_api_Message_1_0 (x0c0 x0c1 x0c2 x0c3 x0c4 x0c5 x0c6 x0c7 x0c8 x0c9 x0c10 x0c11 x0c12 x0c13 x0c14 x0c15 x0c16 x0c17 x0c18 x0c19 x0c20 x0c21 x0c22 x0c23 x0c24 x0c25 x0c26 x0c27 : Value) (k : Cont) (w : World) : bs 42 1 #[(0, (.agg #[x0c0, x0c1, x0c2, x0c3, x0c4, x0c5, x0c6, x0c7, x0c8, x0c9, x0c10, x0c11, x0c12, x0c13, x0c14, x0c15, x0c16, x0c17, x0c18, x0c19, x0c20, x0c21, x0c22, x0c23, x0c24, x0c25, x0c26, x0c27]))] k w = natK (fun n => k (.slice (some ⟨n, 0, none⟩) 1 1) (w.alloc (.cells #[x0c0, x0c1, x0c2, x0c3, x0c4, x0c5, x0c6, x0c7, x0c8, x0c9, x0c10, x0c11, x0c12, x0c13, x0c14, x0c15, x0c16, x0c17, x0c18, x0c19, x0c20, x0c21, x0c22, x0c23, x0c24, x0c25, x0c26, x0c27] 37))) w.heap.size := by kernel_rfl
@[simp] theorem bs_s_api_Message_2_0_1 (x0c0 x0c1 x0c2 x0c3 x0c4 x0c5 x0c6 x0c7 x0c8 x0c9 x0c10 x0c11 x0c12 x0c13 x0c14 x0c15 x0c16 x0c17 x0c18 x0c19 x0c20 x0c21 x0c22 x0c23 x0c24 x0c25 x0c26 x0c27 : Value) (x1c0 x1c1 x1c2 x1c3 x1c4 x1c5 x1c6 x1c7 x1c8 x1c9 x1c10 x1c11 x1c12 x1c13 x1c14 x1c15 x1c16 x1c17 x1c18 x1c19 x1c20 x1c21 x1c22 x1c23 x1c24 x1c25 x1c26 x1c27 : Value) (k : Cont) (w : World) : bs 42 2 #[(0, (.agg #[x0c0, x0c1, x0c2, x0c3, x0c4, x0c5, x0c6, x0c7, x0c8, x0c9, x0c10, x0c11, x0c12, x0c13, x0c14, x0c15, x0c16, x0c17, x0c18, x0c19, x0c20, x0c21, x0c22, x0c23, x0c24, x0c25, x0c26, x0c27])), (1, (.agg #[x1c0, x1c1, x1c2, x1c3, x1c4, x1c5, x1c6, x1c7, x1c8, x1c9, x1c10, x1c11, x1c12, x1c13, x1c14, x1c15, x1c16, x1c17, x1c18, x1c19, x1c20, x1c21, x1c22, x1c23, x1c24, x1c25, x1c26, x1c27]))] k w = natK (fun n => k (.slice (some ⟨n, 0, none⟩) 2 2) (w.alloc (.cells #[x0c0, x0c1, x0c2, x0c3, x0c4, x0c5, x0c6, x0c7, x0c8, x0c9, x0c10, x0c11, x0c12, x0c13, x0c14, x0c15, x0c16, x0c17, x0c18, x0c19, x0c20, x0c21, x0c22, x0c23, x0c24, x0c25, x0c26, x0c27, x1c0, x1c1, x1c2, x1c3, x1c4, x1c5, x1c6, x1c7, x1c8, x1c9, x1c10, x1c11, x1c12, x1c13, x1c14, x1c15, x1c16, x1c17, x1c18, x1c19, x1c20, x1c21, x1c22, x1c23, x1c24, x1c25, x1c26, x1c27] 37))) w.heap.size := by kernel_rfl
@[simp] theorem bs_s_int_1_0 (x0 : Int) (k : Cont) (w : World) : bs 43 1 #[(0, (.int .i64 x0))] k w = natK (fun n => k (.slice (some ⟨n, 0, none⟩) 1 1) (w.alloc (.cells #[(.int .i64 x0)] 3))) w.heap.size := by kernel_rfl
@[simp] theorem bs_s_lodestarref18_Session_1_0 (x0c0 x0c1 x0c2 x0c3 x0c4 x0c5 x0c6 x0c7 x0c8 x0c9 : Value) (k : Cont) (w : World) : bs 73 1 #[(0, (.agg #[x0c0, x0c1, x0c2, x0c3, x0c4, x0c5, x0c6, x0c7, x0c8, x0c9]))] k w = natK (fun n => k (.slice (some ⟨n, 0, none⟩) 1 1) (w.alloc (.cells #[x0c0, x0c1, x0c2, x0c3, x0c4, x0c5, x0c6, x0c7, x0c8, x0c9] 116))) w.heap.size := by kernel_rfl
@[simp] theorem bs_s_string_0_  (k : Cont) (w : World) : bs 30 0 #[] k w = natK (fun n => k (.slice (some ⟨n, 0, none⟩) 0 0) (w.alloc (.cells #[] 9))) w.heap.size := by kernel_rfl
@[simp] theorem bs_s_string_1_0 (x0 : ByteArray) (k : Cont) (w : World) : bs 30 1 #[(0, (.string x0))] k w = natK (fun n => k (.slice (some ⟨n, 0, none⟩) 1 1) (w.alloc (.cells #[(.string x0)] 9))) w.heap.size := by kernel_rfl
@[simp] theorem bs_s_string_2_0_1 (x0 : ByteArray) (x1 : ByteArray) (k : Cont) (w : World) : bs 30 2 #[(0, (.string x0)), (1, (.string x1))] k w = natK (fun n => k (.slice (some ⟨n, 0, none⟩) 2 2) (w.alloc (.cells #[(.string x0), (.string x1)] 9))) w.heap.size := by kernel_rfl
@[simp] theorem bs_s_string_3_0_1_2 (x0 : ByteArray) (x1 : ByteArray) (x2 : ByteArray) (k : Cont) (w : World) : bs 30 3 #[(0, (.string x0)), (1, (.string x1)), (2, (.string x2))] k w = natK (fun n => k (.slice (some ⟨n, 0, none⟩) 3 3) (w.alloc (.cells #[(.string x0), (.string x1), (.string x2)] 9))) w.heap.size := by kernel_rfl
@[simp] theorem bs_s_uint64_1_0 (x0 : Int) (k : Cont) (w : World) : bs 58 1 #[(0, (.int .u64 x0))] k w = natK (fun n => k (.slice (some ⟨n, 0, none⟩) 1 1) (w.alloc (.cells #[(.int .u64 x0)] 23))) w.heap.size := by kernel_rfl
@[simp] theorem cv_uint_uint32 (x : Int) (k : Cont) (w : World) : cv 161 22 (.int .u64 x) k w = k (.int .u32 (IntKind.wrap .u32 x)) w := by kernel_rfl
@[simp] theorem cvq_uint_uint32 (x : Int) (k : Value → Prop) (w : World) : cvq 161 22 (.int .u64 x) k w = k (.int .u32 (IntKind.wrap .u32 x)) := RunQ_ok (by kernel_rfl)
@[simp] theorem cv_uint32_int64 (x : Int) (k : Cont) (w : World) : cv 22 2 (.int .u32 x) k w = k (.int .i64 (IntKind.wrap .i64 x)) w := by kernel_rfl
@[simp] theorem cvq_uint32_int64 (x : Int) (k : Value → Prop) (w : World) : cvq 22 2 (.int .u32 x) k w = k (.int .i64 (IntKind.wrap .i64 x)) := RunQ_ok (by kernel_rfl)
@[simp] theorem cv_uint32_uint64 (x : Int) (k : Cont) (w : World) : cv 22 23 (.int .u32 x) k w = k (.int .u64 (IntKind.wrap .u64 x)) w := by kernel_rfl
@[simp] theorem cvq_uint32_uint64 (x : Int) (k : Value → Prop) (w : World) : cvq 22 23 (.int .u32 x) k w = k (.int .u64 (IntKind.wrap .u64 x)) := RunQ_ok (by kernel_rfl)
@[simp] theorem cv_uint32_int (x : Int) (k : Cont) (w : World) : cv 22 3 (.int .u32 x) k w = k (.int .i64 (IntKind.wrap .i64 x)) w := by kernel_rfl
@[simp] theorem cvq_uint32_int (x : Int) (k : Value → Prop) (w : World) : cvq 22 3 (.int .u32 x) k w = k (.int .i64 (IntKind.wrap .i64 x)) := RunQ_ok (by kernel_rfl)
@[simp] theorem cv_uint32_uint8 (x : Int) (k : Cont) (w : World) : cv 22 5 (.int .u32 x) k w = k (.int .u8 (IntKind.wrap .u8 x)) w := by kernel_rfl
@[simp] theorem cvq_uint32_uint8 (x : Int) (k : Value → Prop) (w : World) : cvq 22 5 (.int .u32 x) k w = k (.int .u8 (IntKind.wrap .u8 x)) := RunQ_ok (by kernel_rfl)
@[simp] theorem cv_uint64_uint8 (x : Int) (k : Cont) (w : World) : cv 23 5 (.int .u64 x) k w = k (.int .u8 (IntKind.wrap .u8 x)) w := by kernel_rfl
@[simp] theorem cvq_uint64_uint8 (x : Int) (k : Value → Prop) (w : World) : cvq 23 5 (.int .u64 x) k w = k (.int .u8 (IntKind.wrap .u8 x)) := RunQ_ok (by kernel_rfl)
@[simp] theorem cv_int_uint (x : Int) (k : Cont) (w : World) : cv 3 161 (.int .i64 x) k w = k (.int .u64 (IntKind.wrap .u64 x)) w := by kernel_rfl
@[simp] theorem cvq_int_uint (x : Int) (k : Value → Prop) (w : World) : cvq 3 161 (.int .i64 x) k w = k (.int .u64 (IntKind.wrap .u64 x)) := RunQ_ok (by kernel_rfl)
@[simp] theorem cv_int_uint32 (x : Int) (k : Cont) (w : World) : cv 3 22 (.int .i64 x) k w = k (.int .u32 (IntKind.wrap .u32 x)) w := by kernel_rfl
@[simp] theorem cvq_int_uint32 (x : Int) (k : Value → Prop) (w : World) : cvq 3 22 (.int .i64 x) k w = k (.int .u32 (IntKind.wrap .u32 x)) := RunQ_ok (by kernel_rfl)
@[simp] theorem cv_int_uint8 (x : Int) (k : Cont) (w : World) : cv 3 5 (.int .i64 x) k w = k (.int .u8 (IntKind.wrap .u8 x)) w := by kernel_rfl
@[simp] theorem cvq_int_uint8 (x : Int) (k : Value → Prop) (w : World) : cvq 3 5 (.int .i64 x) k w = k (.int .u8 (IntKind.wrap .u8 x)) := RunQ_ok (by kernel_rfl)
@[simp] theorem cv_api_Errno_uint8 (x : Int) (k : Cont) (w : World) : cv 46 5 (.int .i64 x) k w = k (.int .u8 (IntKind.wrap .u8 x)) w := by kernel_rfl
@[simp] theorem cvq_api_Errno_uint8 (x : Int) (k : Value → Prop) (w : World) : cvq 46 5 (.int .i64 x) k w = k (.int .u8 (IntKind.wrap .u8 x)) := RunQ_ok (by kernel_rfl)
@[simp] theorem cv_uint8_uint32 (x : Int) (k : Cont) (w : World) : cv 5 22 (.int .u8 x) k w = k (.int .u32 (IntKind.wrap .u32 x)) w := by kernel_rfl
@[simp] theorem cvq_uint8_uint32 (x : Int) (k : Value → Prop) (w : World) : cvq 5 22 (.int .u8 x) k w = k (.int .u32 (IntKind.wrap .u32 x)) := RunQ_ok (by kernel_rfl)
@[simp] theorem cv_uint8_int (x : Int) (k : Cont) (w : World) : cv 5 3 (.int .u8 x) k w = k (.int .i64 (IntKind.wrap .i64 x)) w := by kernel_rfl
@[simp] theorem cvq_uint8_int (x : Int) (k : Value → Prop) (w : World) : cvq 5 3 (.int .u8 x) k w = k (.int .i64 (IntKind.wrap .i64 x)) := RunQ_ok (by kernel_rfl)
@[simp] theorem fa_lodestarref16_Table_L (b i : Nat) (k : Cont) (w : World) : fa 112 (pt b i) 0 k w = k (pt b i) w := by kernel_rfl
@[simp] theorem faq_lodestarref16_Table_L (b i : Nat) (k : Value → Prop) (w : World) : faq 112 (pt b i) 0 k w = k (pt b i) := RunQ_ok (by kernel_rfl)
@[simp] theorem fa_lodestarref16_Table_Acked (b i : Nat) (k : Cont) (w : World) : fa 112 (pt b i) 1 k w = k (pt b (i + 1)) w := by kernel_rfl
@[simp] theorem faq_lodestarref16_Table_Acked (b i : Nat) (k : Value → Prop) (w : World) : faq 112 (pt b i) 1 k w = k (pt b (i + 1)) := RunQ_ok (by kernel_rfl)
@[simp] theorem fa_lodestarref17_Window_Size (b i : Nat) (k : Cont) (w : World) : fa 114 (pt b i) 0 k w = k (pt b i) w := by kernel_rfl
@[simp] theorem faq_lodestarref17_Window_Size (b i : Nat) (k : Value → Prop) (w : World) : faq 114 (pt b i) 0 k w = k (pt b i) := RunQ_ok (by kernel_rfl)
@[simp] theorem fa_lodestarref17_Window_Had (b i : Nat) (k : Cont) (w : World) : fa 114 (pt b i) 1 k w = k (pt b (i + 1)) w := by kernel_rfl
@[simp] theorem faq_lodestarref17_Window_Had (b i : Nat) (k : Value → Prop) (w : World) : faq 114 (pt b i) 1 k w = k (pt b (i + 1)) := RunQ_ok (by kernel_rfl)
@[simp] theorem fa_lodestarref17_Window_Told (b i : Nat) (k : Cont) (w : World) : fa 114 (pt b i) 2 k w = k (pt b (i + 2)) w := by kernel_rfl
@[simp] theorem faq_lodestarref17_Window_Told (b i : Nat) (k : Value → Prop) (w : World) : faq 114 (pt b i) 2 k w = k (pt b (i + 2)) := RunQ_ok (by kernel_rfl)
@[simp] theorem fa_lodestarref18_Session_Token (b i : Nat) (k : Cont) (w : World) : fa 116 (pt b i) 0 k w = k (pt b i) w := by kernel_rfl
@[simp] theorem faq_lodestarref18_Session_Token (b i : Nat) (k : Value → Prop) (w : World) : faq 116 (pt b i) 0 k w = k (pt b i) := RunQ_ok (by kernel_rfl)
@[simp] theorem fa_lodestarref18_Session_Caps (b i : Nat) (k : Cont) (w : World) : fa 116 (pt b i) 1 k w = k (pt b (i + 1)) w := by kernel_rfl
@[simp] theorem faq_lodestarref18_Session_Caps (b i : Nat) (k : Value → Prop) (w : World) : faq 116 (pt b i) 1 k w = k (pt b (i + 1)) := RunQ_ok (by kernel_rfl)
@[simp] theorem fa_lodestarref18_Session_Done (b i : Nat) (k : Cont) (w : World) : fa 116 (pt b i) 2 k w = k (pt b (i + 2)) w := by kernel_rfl
@[simp] theorem faq_lodestarref18_Session_Done (b i : Nat) (k : Value → Prop) (w : World) : faq 116 (pt b i) 2 k w = k (pt b (i + 2)) := RunQ_ok (by kernel_rfl)
@[simp] theorem fa_lodestarref18_Session_Win (b i : Nat) (k : Cont) (w : World) : fa 116 (pt b i) 3 k w = k (pt b (i + 4)) w := by kernel_rfl
@[simp] theorem faq_lodestarref18_Session_Win (b i : Nat) (k : Value → Prop) (w : World) : faq 116 (pt b i) 3 k w = k (pt b (i + 4)) := RunQ_ok (by kernel_rfl)
@[simp] theorem fa_lodestarref18_Session_Has (b i : Nat) (k : Cont) (w : World) : fa 116 (pt b i) 4 k w = k (pt b (i + 7)) w := by kernel_rfl
@[simp] theorem faq_lodestarref18_Session_Has (b i : Nat) (k : Value → Prop) (w : World) : faq 116 (pt b i) 4 k w = k (pt b (i + 7)) := RunQ_ok (by kernel_rfl)
@[simp] theorem fa_lodestarref18_Session_Conn (b i : Nat) (k : Cont) (w : World) : fa 116 (pt b i) 5 k w = k (pt b (i + 8)) w := by kernel_rfl
@[simp] theorem faq_lodestarref18_Session_Conn (b i : Nat) (k : Value → Prop) (w : World) : faq 116 (pt b i) 5 k w = k (pt b (i + 8)) := RunQ_ok (by kernel_rfl)
@[simp] theorem fa_lodestarref18_Session_Since (b i : Nat) (k : Cont) (w : World) : fa 116 (pt b i) 6 k w = k (pt b (i + 9)) w := by kernel_rfl
@[simp] theorem faq_lodestarref18_Session_Since (b i : Nat) (k : Value → Prop) (w : World) : faq 116 (pt b i) 6 k w = k (pt b (i + 9)) := RunQ_ok (by kernel_rfl)
@[simp] theorem fa_api_Change_Gone (b i : Nat) (k : Cont) (w : World) : fa 123 (pt b i) 0 k w = k (pt b i) w := by kernel_rfl
@[simp] theorem faq_api_Change_Gone (b i : Nat) (k : Value → Prop) (w : World) : faq 123 (pt b i) 0 k w = k (pt b i) := RunQ_ok (by kernel_rfl)
@[simp] theorem fa_api_Change_Item (b i : Nat) (k : Cont) (w : World) : fa 123 (pt b i) 1 k w = k (pt b (i + 1)) w := by kernel_rfl
@[simp] theorem faq_api_Change_Item (b i : Nat) (k : Value → Prop) (w : World) : faq 123 (pt b i) 1 k w = k (pt b (i + 1)) := RunQ_ok (by kernel_rfl)
@[simp] theorem fa_dedup_Table_done (b i : Nat) (k : Cont) (w : World) : fa 128 (pt b i) 0 k w = k (pt b i) w := by kernel_rfl
@[simp] theorem faq_dedup_Table_done (b i : Nat) (k : Value → Prop) (w : World) : faq 128 (pt b i) 0 k w = k (pt b i) := RunQ_ok (by kernel_rfl)
@[simp] theorem fa_dedup_Table_acked (b i : Nat) (k : Cont) (w : World) : fa 128 (pt b i) 1 k w = k (pt b (i + 1)) w := by kernel_rfl
@[simp] theorem faq_dedup_Table_acked (b i : Nat) (k : Value → Prop) (w : World) : faq 128 (pt b i) 1 k w = k (pt b (i + 1)) := RunQ_ok (by kernel_rfl)
@[simp] theorem fa_dedup_Table_l (b i : Nat) (k : Cont) (w : World) : fa 128 (pt b i) 2 k w = k (pt b (i + 2)) w := by kernel_rfl
@[simp] theorem faq_dedup_Table_l (b i : Nat) (k : Value → Prop) (w : World) : faq 128 (pt b i) 2 k w = k (pt b (i + 2)) := RunQ_ok (by kernel_rfl)
@[simp] theorem fa_atomic_Uint32_v (b i : Nat) (k : Cont) (w : World) : fa 132 (pt b i) 1 k w = k (pt b i) w := by kernel_rfl
@[simp] theorem faq_atomic_Uint32_v (b i : Nat) (k : Value → Prop) (w : World) : faq 132 (pt b i) 1 k w = k (pt b i) := RunQ_ok (by kernel_rfl)
@[simp] theorem fa_credit_Window_size (b i : Nat) (k : Cont) (w : World) : fa 134 (pt b i) 0 k w = k (pt b i) w := by kernel_rfl
@[simp] theorem faq_credit_Window_size (b i : Nat) (k : Value → Prop) (w : World) : faq 134 (pt b i) 0 k w = k (pt b i) := RunQ_ok (by kernel_rfl)
@[simp] theorem fa_credit_Window_limit (b i : Nat) (k : Cont) (w : World) : fa 134 (pt b i) 1 k w = k (pt b (i + 1)) w := by kernel_rfl
@[simp] theorem faq_credit_Window_limit (b i : Nat) (k : Value → Prop) (w : World) : faq 134 (pt b i) 1 k w = k (pt b (i + 1)) := RunQ_ok (by kernel_rfl)
@[simp] theorem fa_api_Conf_Name (b i : Nat) (k : Cont) (w : World) : fa 27 (pt b i) 0 k w = k (pt b i) w := by kernel_rfl
@[simp] theorem faq_api_Conf_Name (b i : Nat) (k : Value → Prop) (w : World) : faq 27 (pt b i) 0 k w = k (pt b i) := RunQ_ok (by kernel_rfl)
@[simp] theorem fa_api_Filter_All (b i : Nat) (k : Cont) (w : World) : fa 32 (pt b i) 0 k w = k (pt b i) w := by kernel_rfl
@[simp] theorem faq_api_Filter_All (b i : Nat) (k : Value → Prop) (w : World) : faq 32 (pt b i) 0 k w = k (pt b i) := RunQ_ok (by kernel_rfl)
@[simp] theorem fa_api_Filter_Any (b i : Nat) (k : Cont) (w : World) : fa 32 (pt b i) 1 k w = k (pt b (i + 1)) w := by kernel_rfl
@[simp] theorem faq_api_Filter_Any (b i : Nat) (k : Value → Prop) (w : World) : faq 32 (pt b i) 1 k w = k (pt b (i + 1)) := RunQ_ok (by kernel_rfl)
@[simp] theorem fa_api_Filter_None (b i : Nat) (k : Cont) (w : World) : fa 32 (pt b i) 2 k w = k (pt b (i + 2)) w := by kernel_rfl
@[simp] theorem faq_api_Filter_None (b i : Nat) (k : Value → Prop) (w : World) : faq 32 (pt b i) 2 k w = k (pt b (i + 2)) := RunQ_ok (by kernel_rfl)
@[simp] theorem fa_api_Message_Kind (b i : Nat) (k : Cont) (w : World) : fa 37 (pt b i) 0 k w = k (pt b i) w := by kernel_rfl
@[simp] theorem faq_api_Message_Kind (b i : Nat) (k : Value → Prop) (w : World) : faq 37 (pt b i) 0 k w = k (pt b i) := RunQ_ok (by kernel_rfl)
@[simp] theorem fa_api_Message_Req (b i : Nat) (k : Cont) (w : World) : fa 37 (pt b i) 1 k w = k (pt b (i + 1)) w := by kernel_rfl
@[simp] theorem faq_api_Message_Req (b i : Nat) (k : Value → Prop) (w : World) : faq 37 (pt b i) 1 k w = k (pt b (i + 1)) := RunQ_ok (by kernel_rfl)
@[simp] theorem fa_api_Message_Vec (b i : Nat) (k : Cont) (w : World) : fa 37 (pt b i) 10 k w = k (pt b (i + 15)) w := by kernel_rfl
@[simp] theorem faq_api_Message_Vec (b i : Nat) (k : Value → Prop) (w : World) : faq 37 (pt b i) 10 k w = k (pt b (i + 15)) := RunQ_ok (by kernel_rfl)
@[simp] theorem fa_api_Message_K (b i : Nat) (k : Cont) (w : World) : fa 37 (pt b i) 11 k w = k (pt b (i + 16)) w := by kernel_rfl
@[simp] theorem faq_api_Message_K (b i : Nat) (k : Value → Prop) (w : World) : faq 37 (pt b i) 11 k w = k (pt b (i + 16)) := RunQ_ok (by kernel_rfl)
@[simp] theorem fa_api_Message_Width (b i : Nat) (k : Cont) (w : World) : fa 37 (pt b i) 12 k w = k (pt b (i + 17)) w := by kernel_rfl
@[simp] theorem faq_api_Message_Width (b i : Nat) (k : Value → Prop) (w : World) : faq 37 (pt b i) 12 k w = k (pt b (i + 17)) := RunQ_ok (by kernel_rfl)
@[simp] theorem fa_api_Message_Filter (b i : Nat) (k : Cont) (w : World) : fa 37 (pt b i) 13 k w = k (pt b (i + 18)) w := by kernel_rfl
@[simp] theorem faq_api_Message_Filter (b i : Nat) (k : Value → Prop) (w : World) : faq 37 (pt b i) 13 k w = k (pt b (i + 18)) := RunQ_ok (by kernel_rfl)
@[simp] theorem fa_api_Message_Num (b i : Nat) (k : Cont) (w : World) : fa 37 (pt b i) 14 k w = k (pt b (i + 21)) w := by kernel_rfl
@[simp] theorem faq_api_Message_Num (b i : Nat) (k : Value → Prop) (w : World) : faq 37 (pt b i) 14 k w = k (pt b (i + 21)) := RunQ_ok (by kernel_rfl)
@[simp] theorem fa_api_Message_Page (b i : Nat) (k : Cont) (w : World) : fa 37 (pt b i) 15 k w = k (pt b (i + 22)) w := by kernel_rfl
@[simp] theorem faq_api_Message_Page (b i : Nat) (k : Value → Prop) (w : World) : faq 37 (pt b i) 15 k w = k (pt b (i + 22)) := RunQ_ok (by kernel_rfl)
@[simp] theorem fa_api_Message_Bytes (b i : Nat) (k : Cont) (w : World) : fa 37 (pt b i) 16 k w = k (pt b (i + 23)) w := by kernel_rfl
@[simp] theorem faq_api_Message_Bytes (b i : Nat) (k : Value → Prop) (w : World) : faq 37 (pt b i) 16 k w = k (pt b (i + 23)) := RunQ_ok (by kernel_rfl)
@[simp] theorem fa_api_Message_Version (b i : Nat) (k : Cont) (w : World) : fa 37 (pt b i) 17 k w = k (pt b (i + 24)) w := by kernel_rfl
@[simp] theorem faq_api_Message_Version (b i : Nat) (k : Value → Prop) (w : World) : faq 37 (pt b i) 17 k w = k (pt b (i + 24)) := RunQ_ok (by kernel_rfl)
@[simp] theorem fa_api_Message_Names (b i : Nat) (k : Cont) (w : World) : fa 37 (pt b i) 18 k w = k (pt b (i + 25)) w := by kernel_rfl
@[simp] theorem faq_api_Message_Names (b i : Nat) (k : Value → Prop) (w : World) : faq 37 (pt b i) 18 k w = k (pt b (i + 25)) := RunQ_ok (by kernel_rfl)
@[simp] theorem fa_api_Message_Items (b i : Nat) (k : Cont) (w : World) : fa 37 (pt b i) 19 k w = k (pt b (i + 26)) w := by kernel_rfl
@[simp] theorem faq_api_Message_Items (b i : Nat) (k : Value → Prop) (w : World) : faq 37 (pt b i) 19 k w = k (pt b (i + 26)) := RunQ_ok (by kernel_rfl)
@[simp] theorem fa_api_Message_Caps (b i : Nat) (k : Cont) (w : World) : fa 37 (pt b i) 2 k w = k (pt b (i + 2)) w := by kernel_rfl
@[simp] theorem faq_api_Message_Caps (b i : Nat) (k : Value → Prop) (w : World) : faq 37 (pt b i) 2 k w = k (pt b (i + 2)) := RunQ_ok (by kernel_rfl)
@[simp] theorem fa_api_Message_Hits (b i : Nat) (k : Cont) (w : World) : fa 37 (pt b i) 20 k w = k (pt b (i + 27)) w := by kernel_rfl
@[simp] theorem faq_api_Message_Hits (b i : Nat) (k : Value → Prop) (w : World) : faq 37 (pt b i) 20 k w = k (pt b (i + 27)) := RunQ_ok (by kernel_rfl)
@[simp] theorem fa_api_Message_Token (b i : Nat) (k : Cont) (w : World) : fa 37 (pt b i) 3 k w = k (pt b (i + 3)) w := by kernel_rfl
@[simp] theorem faq_api_Message_Token (b i : Nat) (k : Value → Prop) (w : World) : faq 37 (pt b i) 3 k w = k (pt b (i + 3)) := RunQ_ok (by kernel_rfl)
@[simp] theorem fa_api_Message_Code (b i : Nat) (k : Cont) (w : World) : fa 37 (pt b i) 4 k w = k (pt b (i + 4)) w := by kernel_rfl
@[simp] theorem faq_api_Message_Code (b i : Nat) (k : Value → Prop) (w : World) : faq 37 (pt b i) 4 k w = k (pt b (i + 4)) := RunQ_ok (by kernel_rfl)
@[simp] theorem fa_api_Message_N (b i : Nat) (k : Cont) (w : World) : fa 37 (pt b i) 5 k w = k (pt b (i + 5)) w := by kernel_rfl
@[simp] theorem faq_api_Message_N (b i : Nat) (k : Value → Prop) (w : World) : faq 37 (pt b i) 5 k w = k (pt b (i + 5)) := RunQ_ok (by kernel_rfl)
@[simp] theorem fa_api_Message_Name (b i : Nat) (k : Cont) (w : World) : fa 37 (pt b i) 6 k w = k (pt b (i + 6)) w := by kernel_rfl
@[simp] theorem faq_api_Message_Name (b i : Nat) (k : Value → Prop) (w : World) : faq 37 (pt b i) 6 k w = k (pt b (i + 6)) := RunQ_ok (by kernel_rfl)
@[simp] theorem fa_api_Message_Conf (b i : Nat) (k : Cont) (w : World) : fa 37 (pt b i) 7 k w = k (pt b (i + 7)) w := by kernel_rfl
@[simp] theorem faq_api_Message_Conf (b i : Nat) (k : Value → Prop) (w : World) : faq 37 (pt b i) 7 k w = k (pt b (i + 7)) := RunQ_ok (by kernel_rfl)
@[simp] theorem fa_api_Message_Changes (b i : Nat) (k : Cont) (w : World) : fa 37 (pt b i) 8 k w = k (pt b (i + 13)) w := by kernel_rfl
@[simp] theorem faq_api_Message_Changes (b i : Nat) (k : Value → Prop) (w : World) : faq 37 (pt b i) 8 k w = k (pt b (i + 13)) := RunQ_ok (by kernel_rfl)
@[simp] theorem fa_api_Message_Id (b i : Nat) (k : Cont) (w : World) : fa 37 (pt b i) 9 k w = k (pt b (i + 14)) w := by kernel_rfl
@[simp] theorem faq_api_Message_Id (b i : Nat) (k : Value → Prop) (w : World) : faq 37 (pt b i) 9 k w = k (pt b (i + 14)) := RunQ_ok (by kernel_rfl)
@[simp] theorem fa_api_Turn_Out (b i : Nat) (k : Cont) (w : World) : fa 45 (pt b i) 0 k w = k (pt b i) w := by kernel_rfl
@[simp] theorem faq_api_Turn_Out (b i : Nat) (k : Value → Prop) (w : World) : faq 45 (pt b i) 0 k w = k (pt b i) := RunQ_ok (by kernel_rfl)
@[simp] theorem fa_api_Turn_Shut (b i : Nat) (k : Cont) (w : World) : fa 45 (pt b i) 1 k w = k (pt b (i + 1)) w := by kernel_rfl
@[simp] theorem faq_api_Turn_Shut (b i : Nat) (k : Value → Prop) (w : World) : faq 45 (pt b i) 1 k w = k (pt b (i + 1)) := RunQ_ok (by kernel_rfl)
@[simp] theorem fa_api_Turn_Do (b i : Nat) (k : Cont) (w : World) : fa 45 (pt b i) 2 k w = k (pt b (i + 2)) w := by kernel_rfl
@[simp] theorem faq_api_Turn_Do (b i : Nat) (k : Value → Prop) (w : World) : faq 45 (pt b i) 2 k w = k (pt b (i + 2)) := RunQ_ok (by kernel_rfl)
@[simp] theorem fa_api_Turn_Token (b i : Nat) (k : Cont) (w : World) : fa 45 (pt b i) 3 k w = k (pt b (i + 3)) w := by kernel_rfl
@[simp] theorem faq_api_Turn_Token (b i : Nat) (k : Value → Prop) (w : World) : faq 45 (pt b i) 3 k w = k (pt b (i + 3)) := RunQ_ok (by kernel_rfl)
@[simp] theorem fa_lodestarlaw18_Op_Kind (b i : Nat) (k : Cont) (w : World) : fa 66 (pt b i) 0 k w = k (pt b i) w := by kernel_rfl
@[simp] theorem faq_lodestarlaw18_Op_Kind (b i : Nat) (k : Value → Prop) (w : World) : faq 66 (pt b i) 0 k w = k (pt b i) := RunQ_ok (by kernel_rfl)
@[simp] theorem fa_lodestarlaw18_Op_Conn (b i : Nat) (k : Cont) (w : World) : fa 66 (pt b i) 1 k w = k (pt b (i + 1)) w := by kernel_rfl
@[simp] theorem faq_lodestarlaw18_Op_Conn (b i : Nat) (k : Value → Prop) (w : World) : faq 66 (pt b i) 1 k w = k (pt b (i + 1)) := RunQ_ok (by kernel_rfl)
@[simp] theorem fa_lodestarlaw18_Op_X (b i : Nat) (k : Cont) (w : World) : fa 66 (pt b i) 2 k w = k (pt b (i + 2)) w := by kernel_rfl
@[simp] theorem faq_lodestarlaw18_Op_X (b i : Nat) (k : Value → Prop) (w : World) : faq 66 (pt b i) 2 k w = k (pt b (i + 2)) := RunQ_ok (by kernel_rfl)
@[simp] theorem fa_lodestarlaw18_Op_Ahead (b i : Nat) (k : Cont) (w : World) : fa 66 (pt b i) 3 k w = k (pt b (i + 30)) w := by kernel_rfl
@[simp] theorem faq_lodestarlaw18_Op_Ahead (b i : Nat) (k : Value → Prop) (w : World) : faq 66 (pt b i) 3 k w = k (pt b (i + 30)) := RunQ_ok (by kernel_rfl)
@[simp] theorem fa_lodestarlaw18_Op_Tell (b i : Nat) (k : Cont) (w : World) : fa 66 (pt b i) 4 k w = k (pt b (i + 31)) w := by kernel_rfl
@[simp] theorem faq_lodestarlaw18_Op_Tell (b i : Nat) (k : Value → Prop) (w : World) : faq 66 (pt b i) 4 k w = k (pt b (i + 31)) := RunQ_ok (by kernel_rfl)
@[simp] theorem fa_lodestarlaw18_Both_H (b i : Nat) (k : Cont) (w : World) : fa 72 (pt b i) 0 k w = k (pt b i) w := by kernel_rfl
@[simp] theorem faq_lodestarlaw18_Both_H (b i : Nat) (k : Value → Prop) (w : World) : faq 72 (pt b i) 0 k w = k (pt b i) := RunQ_ok (by kernel_rfl)
@[simp] theorem fa_lodestarlaw18_Both_W (b i : Nat) (k : Cont) (w : World) : fa 72 (pt b i) 1 k w = k (pt b (i + 1)) w := by kernel_rfl
@[simp] theorem faq_lodestarlaw18_Both_W (b i : Nat) (k : Value → Prop) (w : World) : faq 72 (pt b i) 1 k w = k (pt b (i + 1)) := RunQ_ok (by kernel_rfl)
@[simp] theorem fa_lodestarlaw18_Both_Now (b i : Nat) (k : Cont) (w : World) : fa 72 (pt b i) 2 k w = k (pt b (i + 2)) w := by kernel_rfl
@[simp] theorem faq_lodestarlaw18_Both_Now (b i : Nat) (k : Value → Prop) (w : World) : faq 72 (pt b i) 2 k w = k (pt b (i + 2)) := RunQ_ok (by kernel_rfl)
@[simp] theorem fa_lodestarlaw18_Both_Done (b i : Nat) (k : Cont) (w : World) : fa 72 (pt b i) 3 k w = k (pt b (i + 3)) w := by kernel_rfl
@[simp] theorem faq_lodestarlaw18_Both_Done (b i : Nat) (k : Value → Prop) (w : World) : faq 72 (pt b i) 3 k w = k (pt b (i + 3)) := RunQ_ok (by kernel_rfl)
@[simp] theorem fa_lodestarref18_Hub_Caps (b i : Nat) (k : Cont) (w : World) : fa 75 (pt b i) 0 k w = k (pt b i) w := by kernel_rfl
@[simp] theorem faq_lodestarref18_Hub_Caps (b i : Nat) (k : Value → Prop) (w : World) : faq 75 (pt b i) 0 k w = k (pt b i) := RunQ_ok (by kernel_rfl)
@[simp] theorem fa_lodestarref18_Hub_Size (b i : Nat) (k : Cont) (w : World) : fa 75 (pt b i) 1 k w = k (pt b (i + 1)) w := by kernel_rfl
@[simp] theorem faq_lodestarref18_Hub_Size (b i : Nat) (k : Value → Prop) (w : World) : faq 75 (pt b i) 1 k w = k (pt b (i + 1)) := RunQ_ok (by kernel_rfl)
@[simp] theorem fa_lodestarref18_Hub_Away (b i : Nat) (k : Cont) (w : World) : fa 75 (pt b i) 2 k w = k (pt b (i + 2)) w := by kernel_rfl
@[simp] theorem faq_lodestarref18_Hub_Away (b i : Nat) (k : Value → Prop) (w : World) : faq 75 (pt b i) 2 k w = k (pt b (i + 2)) := RunQ_ok (by kernel_rfl)
@[simp] theorem fa_lodestarref18_Hub_Conns (b i : Nat) (k : Cont) (w : World) : fa 75 (pt b i) 3 k w = k (pt b (i + 3)) w := by kernel_rfl
@[simp] theorem faq_lodestarref18_Hub_Conns (b i : Nat) (k : Value → Prop) (w : World) : faq 75 (pt b i) 3 k w = k (pt b (i + 3)) := RunQ_ok (by kernel_rfl)
@[simp] theorem fa_lodestarref18_Hub_L (b i : Nat) (k : Cont) (w : World) : fa 75 (pt b i) 4 k w = k (pt b (i + 4)) w := by kernel_rfl
@[simp] theorem faq_lodestarref18_Hub_L (b i : Nat) (k : Value → Prop) (w : World) : faq 75 (pt b i) 4 k w = k (pt b (i + 4)) := RunQ_ok (by kernel_rfl)
@[simp] theorem fa_lodestarref18_Hub_Last (b i : Nat) (k : Cont) (w : World) : fa 75 (pt b i) 5 k w = k (pt b (i + 5)) w := by kernel_rfl
@[simp] theorem faq_lodestarref18_Hub_Last (b i : Nat) (k : Value → Prop) (w : World) : faq 75 (pt b i) 5 k w = k (pt b (i + 5)) := RunQ_ok (by kernel_rfl)
@[simp] theorem fa_api_Item_Id (b i : Nat) (k : Cont) (w : World) : fa 79 (pt b i) 0 k w = k (pt b i) w := by kernel_rfl
@[simp] theorem faq_api_Item_Id (b i : Nat) (k : Value → Prop) (w : World) : faq 79 (pt b i) 0 k w = k (pt b i) := RunQ_ok (by kernel_rfl)
@[simp] theorem fa_api_Item_Vec (b i : Nat) (k : Cont) (w : World) : fa 79 (pt b i) 1 k w = k (pt b (i + 1)) w := by kernel_rfl
@[simp] theorem faq_api_Item_Vec (b i : Nat) (k : Value → Prop) (w : World) : faq 79 (pt b i) 1 k w = k (pt b (i + 1)) := RunQ_ok (by kernel_rfl)
@[simp] theorem fa_api_Item_Tags (b i : Nat) (k : Cont) (w : World) : fa 79 (pt b i) 2 k w = k (pt b (i + 2)) w := by kernel_rfl
@[simp] theorem faq_api_Item_Tags (b i : Nat) (k : Value → Prop) (w : World) : faq 79 (pt b i) 2 k w = k (pt b (i + 2)) := RunQ_ok (by kernel_rfl)
@[simp] theorem fa_session_Hub_caps (b i : Nat) (k : Cont) (w : World) : fa 84 (pt b i) 0 k w = k (pt b i) w := by kernel_rfl
@[simp] theorem faq_session_Hub_caps (b i : Nat) (k : Value → Prop) (w : World) : faq 84 (pt b i) 0 k w = k (pt b i) := RunQ_ok (by kernel_rfl)
@[simp] theorem fa_session_Hub_size (b i : Nat) (k : Cont) (w : World) : fa 84 (pt b i) 1 k w = k (pt b (i + 1)) w := by kernel_rfl
@[simp] theorem faq_session_Hub_size (b i : Nat) (k : Value → Prop) (w : World) : faq 84 (pt b i) 1 k w = k (pt b (i + 1)) := RunQ_ok (by kernel_rfl)
@[simp] theorem fa_session_Hub_away (b i : Nat) (k : Cont) (w : World) : fa 84 (pt b i) 2 k w = k (pt b (i + 2)) w := by kernel_rfl
@[simp] theorem faq_session_Hub_away (b i : Nat) (k : Value → Prop) (w : World) : faq 84 (pt b i) 2 k w = k (pt b (i + 2)) := RunQ_ok (by kernel_rfl)
@[simp] theorem fa_session_Hub_conns (b i : Nat) (k : Cont) (w : World) : fa 84 (pt b i) 3 k w = k (pt b (i + 3)) w := by kernel_rfl
@[simp] theorem faq_session_Hub_conns (b i : Nat) (k : Value → Prop) (w : World) : faq 84 (pt b i) 3 k w = k (pt b (i + 3)) := RunQ_ok (by kernel_rfl)
@[simp] theorem fa_session_Hub_l (b i : Nat) (k : Cont) (w : World) : fa 84 (pt b i) 4 k w = k (pt b (i + 4)) w := by kernel_rfl
@[simp] theorem faq_session_Hub_l (b i : Nat) (k : Value → Prop) (w : World) : faq 84 (pt b i) 4 k w = k (pt b (i + 4)) := RunQ_ok (by kernel_rfl)
@[simp] theorem fa_session_Hub_last (b i : Nat) (k : Cont) (w : World) : fa 84 (pt b i) 5 k w = k (pt b (i + 5)) w := by kernel_rfl
@[simp] theorem faq_session_Hub_last (b i : Nat) (k : Value → Prop) (w : World) : faq 84 (pt b i) 5 k w = k (pt b (i + 5)) := RunQ_ok (by kernel_rfl)
@[simp] theorem fa_session_conn_n (b i : Nat) (k : Cont) (w : World) : fa 88 (pt b i) 0 k w = k (pt b i) w := by kernel_rfl
@[simp] theorem faq_session_conn_n (b i : Nat) (k : Value → Prop) (w : World) : faq 88 (pt b i) 0 k w = k (pt b i) := RunQ_ok (by kernel_rfl)
@[simp] theorem fa_session_conn_s (b i : Nat) (k : Cont) (w : World) : fa 88 (pt b i) 1 k w = k (pt b (i + 1)) w := by kernel_rfl
@[simp] theorem faq_session_conn_s (b i : Nat) (k : Value → Prop) (w : World) : faq 88 (pt b i) 1 k w = k (pt b (i + 1)) := RunQ_ok (by kernel_rfl)
@[simp] theorem fa_session_session_token (b i : Nat) (k : Cont) (w : World) : fa 94 (pt b i) 0 k w = k (pt b i) w := by kernel_rfl
@[simp] theorem faq_session_session_token (b i : Nat) (k : Value → Prop) (w : World) : faq 94 (pt b i) 0 k w = k (pt b i) := RunQ_ok (by kernel_rfl)
@[simp] theorem fa_session_session_caps (b i : Nat) (k : Cont) (w : World) : fa 94 (pt b i) 1 k w = k (pt b (i + 1)) w := by kernel_rfl
@[simp] theorem faq_session_session_caps (b i : Nat) (k : Value → Prop) (w : World) : faq 94 (pt b i) 1 k w = k (pt b (i + 1)) := RunQ_ok (by kernel_rfl)
@[simp] theorem fa_session_session_done (b i : Nat) (k : Cont) (w : World) : fa 94 (pt b i) 2 k w = k (pt b (i + 2)) w := by kernel_rfl
@[simp] theorem faq_session_session_done (b i : Nat) (k : Value → Prop) (w : World) : faq 94 (pt b i) 2 k w = k (pt b (i + 2)) := RunQ_ok (by kernel_rfl)
@[simp] theorem fa_session_session_win (b i : Nat) (k : Cont) (w : World) : fa 94 (pt b i) 3 k w = k (pt b (i + 3)) w := by kernel_rfl
@[simp] theorem faq_session_session_win (b i : Nat) (k : Value → Prop) (w : World) : faq 94 (pt b i) 3 k w = k (pt b (i + 3)) := RunQ_ok (by kernel_rfl)
@[simp] theorem fa_session_session_conn (b i : Nat) (k : Cont) (w : World) : fa 94 (pt b i) 4 k w = k (pt b (i + 4)) w := by kernel_rfl
@[simp] theorem faq_session_session_conn (b i : Nat) (k : Value → Prop) (w : World) : faq 94 (pt b i) 4 k w = k (pt b (i + 4)) := RunQ_ok (by kernel_rfl)
@[simp] theorem fa_session_session_since (b i : Nat) (k : Cont) (w : World) : fa 94 (pt b i) 5 k w = k (pt b (i + 5)) w := by kernel_rfl
@[simp] theorem faq_session_session_since (b i : Nat) (k : Value → Prop) (w : World) : faq 94 (pt b i) 5 k w = k (pt b (i + 5)) := RunQ_ok (by kernel_rfl)
@[simp] theorem ia_s_api_Change (b o n c : Nat) (kd : IntKind) (j : Int) (k : Cont) (w : World) : ia 28 (.slice (some ⟨b, o, none⟩) n c) (.int kd j) k w = ifK (farIa 28 (.slice (some ⟨b, o, none⟩) n c) (.int kd j) k w) (decide (0 ≤ j ∧ j < n)) (k (pt b (o + j.toNat * 4)) w) := ia_slice (e := 123) (by kernel_rfl) (by kernel_rfl) b o n c kd j k w
@[simp] theorem iaq_s_api_Change (b o n c : Nat) (kd : IntKind) (j : Int) (k : Value → Prop) (w : World) : iaq 28 (.slice (some ⟨b, o, none⟩) n c) (.int kd j) k w = ifK (farIaq 28 (.slice (some ⟨b, o, none⟩) n c) (.int kd j) k w) (decide (0 ≤ j ∧ j < n)) (k (pt b (o + j.toNat * 4))) := iaq_slice (e := 123) (by kernel_rfl) (by kernel_rfl) b o n c kd j k w
@[simp] theorem ia_s_int32 (b o n c : Nat) (kd : IntKind) (j : Int) (k : Cont) (w : World) : ia 29 (.slice (some ⟨b, o, none⟩) n c) (.int kd j) k w = ifK (farIa 29 (.slice (some ⟨b, o, none⟩) n c) (.int kd j) k w) (decide (0 ≤ j ∧ j < n)) (k (pt b (o + j.toNat * 1)) w) := ia_slice (e := 21) (by kernel_rfl) (by kernel_rfl) b o n c kd j k w
@[simp] theorem iaq_s_int32 (b o n c : Nat) (kd : IntKind) (j : Int) (k : Value → Prop) (w : World) : iaq 29 (.slice (some ⟨b, o, none⟩) n c) (.int kd j) k w = ifK (farIaq 29 (.slice (some ⟨b, o, none⟩) n c) (.int kd j) k w) (decide (0 ≤ j ∧ j < n)) (k (pt b (o + j.toNat * 1))) := iaq_slice (e := 21) (by kernel_rfl) (by kernel_rfl) b o n c kd j k w
@[simp] theorem ia_s_string (b o n c : Nat) (kd : IntKind) (j : Int) (k : Cont) (w : World) : ia 30 (.slice (some ⟨b, o, none⟩) n c) (.int kd j) k w = ifK (farIa 30 (.slice (some ⟨b, o, none⟩) n c) (.int kd j) k w) (decide (0 ≤ j ∧ j < n)) (k (pt b (o + j.toNat * 1)) w) := ia_slice (e := 9) (by kernel_rfl) (by kernel_rfl) b o n c kd j k w
@[simp] theorem iaq_s_string (b o n c : Nat) (kd : IntKind) (j : Int) (k : Value → Prop) (w : World) : iaq 30 (.slice (some ⟨b, o, none⟩) n c) (.int kd j) k w = ifK (farIaq 30 (.slice (some ⟨b, o, none⟩) n c) (.int kd j) k w) (decide (0 ≤ j ∧ j < n)) (k (pt b (o + j.toNat * 1))) := iaq_slice (e := 9) (by kernel_rfl) (by kernel_rfl) b o n c kd j k w
@[simp] theorem ia_s_api_Item (b o n c : Nat) (kd : IntKind) (j : Int) (k : Cont) (w : World) : ia 34 (.slice (some ⟨b, o, none⟩) n c) (.int kd j) k w = ifK (farIa 34 (.slice (some ⟨b, o, none⟩) n c) (.int kd j) k w) (decide (0 ≤ j ∧ j < n)) (k (pt b (o + j.toNat * 3)) w) := ia_slice (e := 79) (by kernel_rfl) (by kernel_rfl) b o n c kd j k w
@[simp] theorem iaq_s_api_Item (b o n c : Nat) (kd : IntKind) (j : Int) (k : Value → Prop) (w : World) : iaq 34 (.slice (some ⟨b, o, none⟩) n c) (.int kd j) k w = ifK (farIaq 34 (.slice (some ⟨b, o, none⟩) n c) (.int kd j) k w) (decide (0 ≤ j ∧ j < n)) (k (pt b (o + j.toNat * 3))) := iaq_slice (e := 79) (by kernel_rfl) (by kernel_rfl) b o n c kd j k w
@[simp] theorem ia_s_api_Hit (b o n c : Nat) (kd : IntKind) (j : Int) (k : Cont) (w : World) : ia 35 (.slice (some ⟨b, o, none⟩) n c) (.int kd j) k w = ifK (farIa 35 (.slice (some ⟨b, o, none⟩) n c) (.int kd j) k w) (decide (0 ≤ j ∧ j < n)) (k (pt b (o + j.toNat * 2)) w) := ia_slice (e := 190) (by kernel_rfl) (by kernel_rfl) b o n c kd j k w
@[simp] theorem iaq_s_api_Hit (b o n c : Nat) (kd : IntKind) (j : Int) (k : Value → Prop) (w : World) : iaq 35 (.slice (some ⟨b, o, none⟩) n c) (.int kd j) k w = ifK (farIaq 35 (.slice (some ⟨b, o, none⟩) n c) (.int kd j) k w) (decide (0 ≤ j ∧ j < n)) (k (pt b (o + j.toNat * 2))) := iaq_slice (e := 190) (by kernel_rfl) (by kernel_rfl) b o n c kd j k w
@[simp] theorem ia_s_api_Message (b o n c : Nat) (kd : IntKind) (j : Int) (k : Cont) (w : World) : ia 42 (.slice (some ⟨b, o, none⟩) n c) (.int kd j) k w = ifK (farIa 42 (.slice (some ⟨b, o, none⟩) n c) (.int kd j) k w) (decide (0 ≤ j ∧ j < n)) (k (pt b (o + j.toNat * 28)) w) := ia_slice (e := 37) (by kernel_rfl) (by kernel_rfl) b o n c kd j k w
@[simp] theorem iaq_s_api_Message (b o n c : Nat) (kd : IntKind) (j : Int) (k : Value → Prop) (w : World) : iaq 42 (.slice (some ⟨b, o, none⟩) n c) (.int kd j) k w = ifK (farIaq 42 (.slice (some ⟨b, o, none⟩) n c) (.int kd j) k w) (decide (0 ≤ j ∧ j < n)) (k (pt b (o + j.toNat * 28))) := iaq_slice (e := 37) (by kernel_rfl) (by kernel_rfl) b o n c kd j k w
@[simp] theorem ia_s_int (b o n c : Nat) (kd : IntKind) (j : Int) (k : Cont) (w : World) : ia 43 (.slice (some ⟨b, o, none⟩) n c) (.int kd j) k w = ifK (farIa 43 (.slice (some ⟨b, o, none⟩) n c) (.int kd j) k w) (decide (0 ≤ j ∧ j < n)) (k (pt b (o + j.toNat * 1)) w) := ia_slice (e := 3) (by kernel_rfl) (by kernel_rfl) b o n c kd j k w
@[simp] theorem iaq_s_int (b o n c : Nat) (kd : IntKind) (j : Int) (k : Value → Prop) (w : World) : iaq 43 (.slice (some ⟨b, o, none⟩) n c) (.int kd j) k w = ifK (farIaq 43 (.slice (some ⟨b, o, none⟩) n c) (.int kd j) k w) (decide (0 ≤ j ∧ j < n)) (k (pt b (o + j.toNat * 1))) := iaq_slice (e := 3) (by kernel_rfl) (by kernel_rfl) b o n c kd j k w
@[simp] theorem ia_s_uint64 (b o n c : Nat) (kd : IntKind) (j : Int) (k : Cont) (w : World) : ia 58 (.slice (some ⟨b, o, none⟩) n c) (.int kd j) k w = ifK (farIa 58 (.slice (some ⟨b, o, none⟩) n c) (.int kd j) k w) (decide (0 ≤ j ∧ j < n)) (k (pt b (o + j.toNat * 1)) w) := ia_slice (e := 23) (by kernel_rfl) (by kernel_rfl) b o n c kd j k w
@[simp] theorem iaq_s_uint64 (b o n c : Nat) (kd : IntKind) (j : Int) (k : Value → Prop) (w : World) : iaq 58 (.slice (some ⟨b, o, none⟩) n c) (.int kd j) k w = ifK (farIaq 58 (.slice (some ⟨b, o, none⟩) n c) (.int kd j) k w) (decide (0 ≤ j ∧ j < n)) (k (pt b (o + j.toNat * 1))) := iaq_slice (e := 23) (by kernel_rfl) (by kernel_rfl) b o n c kd j k w
@[simp] theorem ia_s_lodestarlaw18_Op (b o n c : Nat) (kd : IntKind) (j : Int) (k : Cont) (w : World) : ia 62 (.slice (some ⟨b, o, none⟩) n c) (.int kd j) k w = ifK (farIa 62 (.slice (some ⟨b, o, none⟩) n c) (.int kd j) k w) (decide (0 ≤ j ∧ j < n)) (k (pt b (o + j.toNat * 32)) w) := ia_slice (e := 66) (by kernel_rfl) (by kernel_rfl) b o n c kd j k w
@[simp] theorem iaq_s_lodestarlaw18_Op (b o n c : Nat) (kd : IntKind) (j : Int) (k : Value → Prop) (w : World) : iaq 62 (.slice (some ⟨b, o, none⟩) n c) (.int kd j) k w = ifK (farIaq 62 (.slice (some ⟨b, o, none⟩) n c) (.int kd j) k w) (decide (0 ≤ j ∧ j < n)) (k (pt b (o + j.toNat * 32))) := iaq_slice (e := 66) (by kernel_rfl) (by kernel_rfl) b o n c kd j k w
@[simp] theorem ia_s_lodestarref18_Session (b o n c : Nat) (kd : IntKind) (j : Int) (k : Cont) (w : World) : ia 73 (.slice (some ⟨b, o, none⟩) n c) (.int kd j) k w = ifK (farIa 73 (.slice (some ⟨b, o, none⟩) n c) (.int kd j) k w) (decide (0 ≤ j ∧ j < n)) (k (pt b (o + j.toNat * 10)) w) := ia_slice (e := 116) (by kernel_rfl) (by kernel_rfl) b o n c kd j k w
@[simp] theorem iaq_s_lodestarref18_Session (b o n c : Nat) (kd : IntKind) (j : Int) (k : Value → Prop) (w : World) : iaq 73 (.slice (some ⟨b, o, none⟩) n c) (.int kd j) k w = ifK (farIaq 73 (.slice (some ⟨b, o, none⟩) n c) (.int kd j) k w) (decide (0 ≤ j ∧ j < n)) (k (pt b (o + j.toNat * 10))) := iaq_slice (e := 116) (by kernel_rfl) (by kernel_rfl) b o n c kd j k w
@[simp] theorem ld_func_string_bool (b i : Nat) (k : Cont) (w : World) : ld 103 (pt b i) k w = optK (farLd 103 b i k w) (cellOf (hp w b) i) (fun v => k v w) := ld_scalar (by kernel_rfl) (by kernel_rfl) b i k w
@[simp] theorem ldq_func_string_bool (b i : Nat) (k : Value → Prop) (w : World) : ldq 103 (pt b i) k w = optK (farLdq 103 b i k w) (cellOf (hp w b) i) k := ldq_scalar (by kernel_rfl) (by kernel_rfl) b i k w
@[simp] theorem ld_lodestarref17_Window (b i : Nat) (k : Cont) (w : World) : ld 114 (pt b i) k w = optK (farLd 114 b i k w) (rowOf (hp w b) i 3) (fun v => k v w) := ld_agg (by kernel_rfl) (by kernel_rfl) b i k w
@[simp] theorem ldq_lodestarref17_Window (b i : Nat) (k : Value → Prop) (w : World) : ldq 114 (pt b i) k w = optK (farLdq 114 b i k w) (rowOf (hp w b) i 3) k := ldq_agg (by kernel_rfl) (by kernel_rfl) b i k w
@[simp] theorem ld_lodestarref18_Session (b i : Nat) (k : Cont) (w : World) : ld 116 (pt b i) k w = optK (farLd 116 b i k w) (rowOf (hp w b) i 10) (fun v => k v w) := ld_agg (by kernel_rfl) (by kernel_rfl) b i k w
@[simp] theorem ldq_lodestarref18_Session (b i : Nat) (k : Value → Prop) (w : World) : ldq 116 (pt b i) k w = optK (farLdq 116 b i k w) (rowOf (hp w b) i 10) k := ldq_agg (by kernel_rfl) (by kernel_rfl) b i k w
@[simp] theorem ld_map_uint32_api_Message (b i : Nat) (k : Cont) (w : World) : ld 126 (pt b i) k w = optK (farLd 126 b i k w) (cellOf (hp w b) i) (fun v => k v w) := ld_scalar (by kernel_rfl) (by kernel_rfl) b i k w
@[simp] theorem ldq_map_uint32_api_Message (b i : Nat) (k : Value → Prop) (w : World) : ldq 126 (pt b i) k w = optK (farLdq 126 b i k w) (cellOf (hp w b) i) k := ldq_scalar (by kernel_rfl) (by kernel_rfl) b i k w
@[simp] theorem ld_api_Hit (b i : Nat) (k : Cont) (w : World) : ld 190 (pt b i) k w = optK (farLd 190 b i k w) (rowOf (hp w b) i 2) (fun v => k v w) := ld_agg (by kernel_rfl) (by kernel_rfl) b i k w
@[simp] theorem ldq_api_Hit (b i : Nat) (k : Value → Prop) (w : World) : ldq 190 (pt b i) k w = optK (farLdq 190 b i k w) (rowOf (hp w b) i 2) k := ldq_agg (by kernel_rfl) (by kernel_rfl) b i k w
@[simp] theorem ld_int32 (b i : Nat) (k : Cont) (w : World) : ld 21 (pt b i) k w = optK (farLd 21 b i k w) (cellOf (hp w b) i) (fun v => k v w) := ld_scalar (by kernel_rfl) (by kernel_rfl) b i k w
@[simp] theorem ldq_int32 (b i : Nat) (k : Value → Prop) (w : World) : ldq 21 (pt b i) k w = optK (farLdq 21 b i k w) (cellOf (hp w b) i) k := ldq_scalar (by kernel_rfl) (by kernel_rfl) b i k w
@[simp] theorem ld_uint32 (b i : Nat) (k : Cont) (w : World) : ld 22 (pt b i) k w = optK (farLd 22 b i k w) (cellOf (hp w b) i) (fun v => k v w) := ld_scalar (by kernel_rfl) (by kernel_rfl) b i k w
@[simp] theorem ldq_uint32 (b i : Nat) (k : Value → Prop) (w : World) : ldq 22 (pt b i) k w = optK (farLdq 22 b i k w) (cellOf (hp w b) i) k := ldq_scalar (by kernel_rfl) (by kernel_rfl) b i k w
@[simp] theorem ld_uint64 (b i : Nat) (k : Cont) (w : World) : ld 23 (pt b i) k w = optK (farLd 23 b i k w) (cellOf (hp w b) i) (fun v => k v w) := ld_scalar (by kernel_rfl) (by kernel_rfl) b i k w
@[simp] theorem ldq_uint64 (b i : Nat) (k : Value → Prop) (w : World) : ldq 23 (pt b i) k w = optK (farLdq 23 b i k w) (cellOf (hp w b) i) k := ldq_scalar (by kernel_rfl) (by kernel_rfl) b i k w
@[simp] theorem ld_uint16 (b i : Nat) (k : Cont) (w : World) : ld 25 (pt b i) k w = optK (farLd 25 b i k w) (cellOf (hp w b) i) (fun v => k v w) := ld_scalar (by kernel_rfl) (by kernel_rfl) b i k w
@[simp] theorem ldq_uint16 (b i : Nat) (k : Value → Prop) (w : World) : ldq 25 (pt b i) k w = optK (farLdq 25 b i k w) (cellOf (hp w b) i) k := ldq_scalar (by kernel_rfl) (by kernel_rfl) b i k w
@[simp] theorem ld_api_Conf (b i : Nat) (k : Cont) (w : World) : ld 27 (pt b i) k w = optK (farLd 27 b i k w) (rowOf (hp w b) i 6) (fun v => k v w) := ld_agg (by kernel_rfl) (by kernel_rfl) b i k w
@[simp] theorem ldq_api_Conf (b i : Nat) (k : Value → Prop) (w : World) : ldq 27 (pt b i) k w = optK (farLdq 27 b i k w) (rowOf (hp w b) i 6) k := ldq_agg (by kernel_rfl) (by kernel_rfl) b i k w
@[simp] theorem ld_s_api_Change (b i : Nat) (k : Cont) (w : World) : ld 28 (pt b i) k w = optK (farLd 28 b i k w) (cellOf (hp w b) i) (fun v => k v w) := ld_scalar (by kernel_rfl) (by kernel_rfl) b i k w
@[simp] theorem ldq_s_api_Change (b i : Nat) (k : Value → Prop) (w : World) : ldq 28 (pt b i) k w = optK (farLdq 28 b i k w) (cellOf (hp w b) i) k := ldq_scalar (by kernel_rfl) (by kernel_rfl) b i k w
@[simp] theorem ld_s_int32 (b i : Nat) (k : Cont) (w : World) : ld 29 (pt b i) k w = optK (farLd 29 b i k w) (cellOf (hp w b) i) (fun v => k v w) := ld_scalar (by kernel_rfl) (by kernel_rfl) b i k w
@[simp] theorem ldq_s_int32 (b i : Nat) (k : Value → Prop) (w : World) : ldq 29 (pt b i) k w = optK (farLdq 29 b i k w) (cellOf (hp w b) i) k := ldq_scalar (by kernel_rfl) (by kernel_rfl) b i k w
@[simp] theorem ld_int (b i : Nat) (k : Cont) (w : World) : ld 3 (pt b i) k w = optK (farLd 3 b i k w) (cellOf (hp w b) i) (fun v => k v w) := ld_scalar (by kernel_rfl) (by kernel_rfl) b i k w
@[simp] theorem ldq_int (b i : Nat) (k : Value → Prop) (w : World) : ldq 3 (pt b i) k w = optK (farLdq 3 b i k w) (cellOf (hp w b) i) k := ldq_scalar (by kernel_rfl) (by kernel_rfl) b i k w
@[simp] theorem ld_s_string (b i : Nat) (k : Cont) (w : World) : ld 30 (pt b i) k w = optK (farLd 30 b i k w) (cellOf (hp w b) i) (fun v => k v w) := ld_scalar (by kernel_rfl) (by kernel_rfl) b i k w
@[simp] theorem ldq_s_string (b i : Nat) (k : Value → Prop) (w : World) : ldq 30 (pt b i) k w = optK (farLdq 30 b i k w) (cellOf (hp w b) i) k := ldq_scalar (by kernel_rfl) (by kernel_rfl) b i k w
@[simp] theorem ld_api_Filter (b i : Nat) (k : Cont) (w : World) : ld 32 (pt b i) k w = optK (farLd 32 b i k w) (rowOf (hp w b) i 3) (fun v => k v w) := ld_agg (by kernel_rfl) (by kernel_rfl) b i k w
@[simp] theorem ldq_api_Filter (b i : Nat) (k : Value → Prop) (w : World) : ldq 32 (pt b i) k w = optK (farLdq 32 b i k w) (rowOf (hp w b) i 3) k := ldq_agg (by kernel_rfl) (by kernel_rfl) b i k w
@[simp] theorem ld_s_uint8 (b i : Nat) (k : Cont) (w : World) : ld 33 (pt b i) k w = optK (farLd 33 b i k w) (cellOf (hp w b) i) (fun v => k v w) := ld_scalar (by kernel_rfl) (by kernel_rfl) b i k w
@[simp] theorem ldq_s_uint8 (b i : Nat) (k : Value → Prop) (w : World) : ldq 33 (pt b i) k w = optK (farLdq 33 b i k w) (cellOf (hp w b) i) k := ldq_scalar (by kernel_rfl) (by kernel_rfl) b i k w
@[simp] theorem ld_s_api_Item (b i : Nat) (k : Cont) (w : World) : ld 34 (pt b i) k w = optK (farLd 34 b i k w) (cellOf (hp w b) i) (fun v => k v w) := ld_scalar (by kernel_rfl) (by kernel_rfl) b i k w
@[simp] theorem ldq_s_api_Item (b i : Nat) (k : Value → Prop) (w : World) : ldq 34 (pt b i) k w = optK (farLdq 34 b i k w) (cellOf (hp w b) i) k := ldq_scalar (by kernel_rfl) (by kernel_rfl) b i k w
@[simp] theorem ld_s_api_Hit (b i : Nat) (k : Cont) (w : World) : ld 35 (pt b i) k w = optK (farLd 35 b i k w) (cellOf (hp w b) i) (fun v => k v w) := ld_scalar (by kernel_rfl) (by kernel_rfl) b i k w
@[simp] theorem ldq_s_api_Hit (b i : Nat) (k : Value → Prop) (w : World) : ldq 35 (pt b i) k w = optK (farLdq 35 b i k w) (cellOf (hp w b) i) k := ldq_scalar (by kernel_rfl) (by kernel_rfl) b i k w
@[simp] theorem ld_api_Message (b i : Nat) (k : Cont) (w : World) : ld 37 (pt b i) k w = optK (farLd 37 b i k w) (rowOf (hp w b) i 28) (fun v => k v w) := ld_agg (by kernel_rfl) (by kernel_rfl) b i k w
@[simp] theorem ldq_api_Message (b i : Nat) (k : Value → Prop) (w : World) : ldq 37 (pt b i) k w = optK (farLdq 37 b i k w) (rowOf (hp w b) i 28) k := ldq_agg (by kernel_rfl) (by kernel_rfl) b i k w
@[simp] theorem ld_bool (b i : Nat) (k : Cont) (w : World) : ld 4 (pt b i) k w = optK (farLd 4 b i k w) (cellOf (hp w b) i) (fun v => k v w) := ld_scalar (by kernel_rfl) (by kernel_rfl) b i k w
@[simp] theorem ldq_bool (b i : Nat) (k : Value → Prop) (w : World) : ldq 4 (pt b i) k w = optK (farLdq 4 b i k w) (cellOf (hp w b) i) k := ldq_scalar (by kernel_rfl) (by kernel_rfl) b i k w
@[simp] theorem ld_p_session_Hub (b i : Nat) (k : Cont) (w : World) : ld 40 (pt b i) k w = optK (farLd 40 b i k w) (cellOf (hp w b) i) (fun v => k v w) := ld_scalar (by kernel_rfl) (by kernel_rfl) b i k w
@[simp] theorem ldq_p_session_Hub (b i : Nat) (k : Value → Prop) (w : World) : ldq 40 (pt b i) k w = optK (farLdq 40 b i k w) (cellOf (hp w b) i) k := ldq_scalar (by kernel_rfl) (by kernel_rfl) b i k w
@[simp] theorem ld_s_api_Message (b i : Nat) (k : Cont) (w : World) : ld 42 (pt b i) k w = optK (farLd 42 b i k w) (cellOf (hp w b) i) (fun v => k v w) := ld_scalar (by kernel_rfl) (by kernel_rfl) b i k w
@[simp] theorem ldq_s_api_Message (b i : Nat) (k : Value → Prop) (w : World) : ldq 42 (pt b i) k w = optK (farLdq 42 b i k w) (cellOf (hp w b) i) k := ldq_scalar (by kernel_rfl) (by kernel_rfl) b i k w
@[simp] theorem ld_s_int (b i : Nat) (k : Cont) (w : World) : ld 43 (pt b i) k w = optK (farLd 43 b i k w) (cellOf (hp w b) i) (fun v => k v w) := ld_scalar (by kernel_rfl) (by kernel_rfl) b i k w
@[simp] theorem ldq_s_int (b i : Nat) (k : Value → Prop) (w : World) : ldq 43 (pt b i) k w = optK (farLdq 43 b i k w) (cellOf (hp w b) i) k := ldq_scalar (by kernel_rfl) (by kernel_rfl) b i k w
@[simp] theorem ld_api_Turn (b i : Nat) (k : Cont) (w : World) : ld 45 (pt b i) k w = optK (farLd 45 b i k w) (rowOf (hp w b) i 4) (fun v => k v w) := ld_agg (by kernel_rfl) (by kernel_rfl) b i k w
@[simp] theorem ldq_api_Turn (b i : Nat) (k : Value → Prop) (w : World) : ldq 45 (pt b i) k w = optK (farLdq 45 b i k w) (rowOf (hp w b) i 4) k := ldq_agg (by kernel_rfl) (by kernel_rfl) b i k w
@[simp] theorem ld_uint8 (b i : Nat) (k : Cont) (w : World) : ld 5 (pt b i) k w = optK (farLd 5 b i k w) (cellOf (hp w b) i) (fun v => k v w) := ld_scalar (by kernel_rfl) (by kernel_rfl) b i k w
@[simp] theorem ldq_uint8 (b i : Nat) (k : Value → Prop) (w : World) : ldq 5 (pt b i) k w = optK (farLdq 5 b i k w) (cellOf (hp w b) i) k := ldq_scalar (by kernel_rfl) (by kernel_rfl) b i k w
@[simp] theorem ld_s_uint64 (b i : Nat) (k : Cont) (w : World) : ld 58 (pt b i) k w = optK (farLd 58 b i k w) (cellOf (hp w b) i) (fun v => k v w) := ld_scalar (by kernel_rfl) (by kernel_rfl) b i k w
@[simp] theorem ldq_s_uint64 (b i : Nat) (k : Value → Prop) (w : World) : ldq 58 (pt b i) k w = optK (farLdq 58 b i k w) (cellOf (hp w b) i) k := ldq_scalar (by kernel_rfl) (by kernel_rfl) b i k w
@[simp] theorem ld_lodestarlaw18_Op (b i : Nat) (k : Cont) (w : World) : ld 66 (pt b i) k w = optK (farLd 66 b i k w) (rowOf (hp w b) i 32) (fun v => k v w) := ld_agg (by kernel_rfl) (by kernel_rfl) b i k w
@[simp] theorem ldq_lodestarlaw18_Op (b i : Nat) (k : Value → Prop) (w : World) : ldq 66 (pt b i) k w = optK (farLdq 66 b i k w) (rowOf (hp w b) i 32) k := ldq_agg (by kernel_rfl) (by kernel_rfl) b i k w
@[simp] theorem ld_p_lodestarref18_Hub (b i : Nat) (k : Cont) (w : World) : ld 69 (pt b i) k w = optK (farLd 69 b i k w) (cellOf (hp w b) i) (fun v => k v w) := ld_scalar (by kernel_rfl) (by kernel_rfl) b i k w
@[simp] theorem ldq_p_lodestarref18_Hub (b i : Nat) (k : Value → Prop) (w : World) : ldq 69 (pt b i) k w = optK (farLdq 69 b i k w) (cellOf (hp w b) i) k := ldq_scalar (by kernel_rfl) (by kernel_rfl) b i k w
@[simp] theorem ld_s__2_uint64 (b i : Nat) (k : Cont) (w : World) : ld 70 (pt b i) k w = optK (farLd 70 b i k w) (cellOf (hp w b) i) (fun v => k v w) := ld_scalar (by kernel_rfl) (by kernel_rfl) b i k w
@[simp] theorem ldq_s__2_uint64 (b i : Nat) (k : Value → Prop) (w : World) : ldq 70 (pt b i) k w = optK (farLdq 70 b i k w) (cellOf (hp w b) i) k := ldq_scalar (by kernel_rfl) (by kernel_rfl) b i k w
@[simp] theorem ld_s_lodestarref18_Session (b i : Nat) (k : Cont) (w : World) : ld 73 (pt b i) k w = optK (farLd 73 b i k w) (cellOf (hp w b) i) (fun v => k v w) := ld_scalar (by kernel_rfl) (by kernel_rfl) b i k w
@[simp] theorem ldq_s_lodestarref18_Session (b i : Nat) (k : Value → Prop) (w : World) : ldq 73 (pt b i) k w = optK (farLdq 73 b i k w) (cellOf (hp w b) i) k := ldq_scalar (by kernel_rfl) (by kernel_rfl) b i k w
@[simp] theorem ld_api_Item (b i : Nat) (k : Cont) (w : World) : ld 79 (pt b i) k w = optK (farLd 79 b i k w) (rowOf (hp w b) i 3) (fun v => k v w) := ld_agg (by kernel_rfl) (by kernel_rfl) b i k w
@[simp] theorem ldq_api_Item (b i : Nat) (k : Value → Prop) (w : World) : ldq 79 (pt b i) k w = optK (farLdq 79 b i k w) (rowOf (hp w b) i 3) k := ldq_agg (by kernel_rfl) (by kernel_rfl) b i k w
@[simp] theorem ld_map_int_p_session_conn (b i : Nat) (k : Cont) (w : World) : ld 81 (pt b i) k w = optK (farLd 81 b i k w) (cellOf (hp w b) i) (fun v => k v w) := ld_scalar (by kernel_rfl) (by kernel_rfl) b i k w
@[simp] theorem ldq_map_int_p_session_conn (b i : Nat) (k : Value → Prop) (w : World) : ldq 81 (pt b i) k w = optK (farLdq 81 b i k w) (cellOf (hp w b) i) k := ldq_scalar (by kernel_rfl) (by kernel_rfl) b i k w
@[simp] theorem ld_map_uint64_p_session_session (b i : Nat) (k : Cont) (w : World) : ld 82 (pt b i) k w = optK (farLd 82 b i k w) (cellOf (hp w b) i) (fun v => k v w) := ld_scalar (by kernel_rfl) (by kernel_rfl) b i k w
@[simp] theorem ldq_map_uint64_p_session_session (b i : Nat) (k : Value → Prop) (w : World) : ldq 82 (pt b i) k w = optK (farLdq 82 b i k w) (cellOf (hp w b) i) k := ldq_scalar (by kernel_rfl) (by kernel_rfl) b i k w
@[simp] theorem ld_p_session_conn (b i : Nat) (k : Cont) (w : World) : ld 85 (pt b i) k w = optK (farLd 85 b i k w) (cellOf (hp w b) i) (fun v => k v w) := ld_scalar (by kernel_rfl) (by kernel_rfl) b i k w
@[simp] theorem ldq_p_session_conn (b i : Nat) (k : Value → Prop) (w : World) : ldq 85 (pt b i) k w = optK (farLdq 85 b i k w) (cellOf (hp w b) i) k := ldq_scalar (by kernel_rfl) (by kernel_rfl) b i k w
@[simp] theorem ld_p_session_session (b i : Nat) (k : Cont) (w : World) : ld 86 (pt b i) k w = optK (farLd 86 b i k w) (cellOf (hp w b) i) (fun v => k v w) := ld_scalar (by kernel_rfl) (by kernel_rfl) b i k w
@[simp] theorem ldq_p_session_session (b i : Nat) (k : Value → Prop) (w : World) : ldq 86 (pt b i) k w = optK (farLdq 86 b i k w) (cellOf (hp w b) i) k := ldq_scalar (by kernel_rfl) (by kernel_rfl) b i k w
@[simp] theorem ld_string (b i : Nat) (k : Cont) (w : World) : ld 9 (pt b i) k w = optK (farLd 9 b i k w) (cellOf (hp w b) i) (fun v => k v w) := ld_scalar (by kernel_rfl) (by kernel_rfl) b i k w
@[simp] theorem ldq_string (b i : Nat) (k : Value → Prop) (w : World) : ldq 9 (pt b i) k w = optK (farLdq 9 b i k w) (cellOf (hp w b) i) k := ldq_scalar (by kernel_rfl) (by kernel_rfl) b i k w
@[simp] theorem ld_p_dedup_Table (b i : Nat) (k : Cont) (w : World) : ld 91 (pt b i) k w = optK (farLd 91 b i k w) (cellOf (hp w b) i) (fun v => k v w) := ld_scalar (by kernel_rfl) (by kernel_rfl) b i k w
@[simp] theorem ldq_p_dedup_Table (b i : Nat) (k : Value → Prop) (w : World) : ldq 91 (pt b i) k w = optK (farLdq 91 b i k w) (cellOf (hp w b) i) k := ldq_scalar (by kernel_rfl) (by kernel_rfl) b i k w
@[simp] theorem ld_p_credit_Window (b i : Nat) (k : Cont) (w : World) : ld 92 (pt b i) k w = optK (farLd 92 b i k w) (cellOf (hp w b) i) (fun v => k v w) := ld_scalar (by kernel_rfl) (by kernel_rfl) b i k w
@[simp] theorem ldq_p_credit_Window (b i : Nat) (k : Value → Prop) (w : World) : ldq 92 (pt b i) k w = optK (farLdq 92 b i k w) (cellOf (hp w b) i) k := ldq_scalar (by kernel_rfl) (by kernel_rfl) b i k w
@[simp] theorem len_s_api_Change (a : Option Addr) (n c : Nat) (k : Cont) (w : World) : b_len #[28] 3 #[.slice a n c] k w = k (I n) w := Run_ok (by kernel_rfl)
@[simp] theorem lenq_s_api_Change (a : Option Addr) (n c : Nat) (k : Value → Prop) (w : World) : b_lenq #[28] 3 #[.slice a n c] k w = k (I n) := RunQ_ok (by kernel_rfl)
@[simp] theorem len_s_int32 (a : Option Addr) (n c : Nat) (k : Cont) (w : World) : b_len #[29] 3 #[.slice a n c] k w = k (I n) w := Run_ok (by kernel_rfl)
@[simp] theorem lenq_s_int32 (a : Option Addr) (n c : Nat) (k : Value → Prop) (w : World) : b_lenq #[29] 3 #[.slice a n c] k w = k (I n) := RunQ_ok (by kernel_rfl)
@[simp] theorem len_s_string (a : Option Addr) (n c : Nat) (k : Cont) (w : World) : b_len #[30] 3 #[.slice a n c] k w = k (I n) w := Run_ok (by kernel_rfl)
@[simp] theorem lenq_s_string (a : Option Addr) (n c : Nat) (k : Value → Prop) (w : World) : b_lenq #[30] 3 #[.slice a n c] k w = k (I n) := RunQ_ok (by kernel_rfl)
@[simp] theorem len_s_uint8 (a : Option Addr) (n c : Nat) (k : Cont) (w : World) : b_len #[33] 3 #[.slice a n c] k w = k (I n) w := Run_ok (by kernel_rfl)
@[simp] theorem lenq_s_uint8 (a : Option Addr) (n c : Nat) (k : Value → Prop) (w : World) : b_lenq #[33] 3 #[.slice a n c] k w = k (I n) := RunQ_ok (by kernel_rfl)
@[simp] theorem len_s_api_Item (a : Option Addr) (n c : Nat) (k : Cont) (w : World) : b_len #[34] 3 #[.slice a n c] k w = k (I n) w := Run_ok (by kernel_rfl)
@[simp] theorem lenq_s_api_Item (a : Option Addr) (n c : Nat) (k : Value → Prop) (w : World) : b_lenq #[34] 3 #[.slice a n c] k w = k (I n) := RunQ_ok (by kernel_rfl)
@[simp] theorem len_s_api_Hit (a : Option Addr) (n c : Nat) (k : Cont) (w : World) : b_len #[35] 3 #[.slice a n c] k w = k (I n) w := Run_ok (by kernel_rfl)
@[simp] theorem lenq_s_api_Hit (a : Option Addr) (n c : Nat) (k : Value → Prop) (w : World) : b_lenq #[35] 3 #[.slice a n c] k w = k (I n) := RunQ_ok (by kernel_rfl)
@[simp] theorem len_s_api_Message (a : Option Addr) (n c : Nat) (k : Cont) (w : World) : b_len #[42] 3 #[.slice a n c] k w = k (I n) w := Run_ok (by kernel_rfl)
@[simp] theorem lenq_s_api_Message (a : Option Addr) (n c : Nat) (k : Value → Prop) (w : World) : b_lenq #[42] 3 #[.slice a n c] k w = k (I n) := RunQ_ok (by kernel_rfl)
@[simp] theorem len_s_int (a : Option Addr) (n c : Nat) (k : Cont) (w : World) : b_len #[43] 3 #[.slice a n c] k w = k (I n) w := Run_ok (by kernel_rfl)
@[simp] theorem lenq_s_int (a : Option Addr) (n c : Nat) (k : Value → Prop) (w : World) : b_lenq #[43] 3 #[.slice a n c] k w = k (I n) := RunQ_ok (by kernel_rfl)
@[simp] theorem len_s_uint64 (a : Option Addr) (n c : Nat) (k : Cont) (w : World) : b_len #[58] 3 #[.slice a n c] k w = k (I n) w := Run_ok (by kernel_rfl)
@[simp] theorem lenq_s_uint64 (a : Option Addr) (n c : Nat) (k : Value → Prop) (w : World) : b_lenq #[58] 3 #[.slice a n c] k w = k (I n) := RunQ_ok (by kernel_rfl)
@[simp] theorem len_s_lodestarlaw18_Op (a : Option Addr) (n c : Nat) (k : Cont) (w : World) : b_len #[62] 3 #[.slice a n c] k w = k (I n) w := Run_ok (by kernel_rfl)
@[simp] theorem lenq_s_lodestarlaw18_Op (a : Option Addr) (n c : Nat) (k : Value → Prop) (w : World) : b_lenq #[62] 3 #[.slice a n c] k w = k (I n) := RunQ_ok (by kernel_rfl)
@[simp] theorem len_s_lodestarref18_Session (a : Option Addr) (n c : Nat) (k : Cont) (w : World) : b_len #[73] 3 #[.slice a n c] k w = k (I n) w := Run_ok (by kernel_rfl)
@[simp] theorem lenq_s_lodestarref18_Session (a : Option Addr) (n c : Nat) (k : Value → Prop) (w : World) : b_lenq #[73] 3 #[.slice a n c] k w = k (I n) := RunQ_ok (by kernel_rfl)
@[simp] theorem len_string (s : ByteArray) (k : Cont) (w : World) : b_len #[9] 3 #[.string s] k w = k (I s.size) w := Run_ok (by kernel_rfl)
@[simp] theorem lenq_string (s : ByteArray) (k : Value → Prop) (w : World) : b_lenq #[9] 3 #[.string s] k w = k (I s.size) := RunQ_ok (by kernel_rfl)
@[simp] theorem st_func_string_bool (b i : Nat) (v : Value) (k : Cont) (w : World) : st 103 (pt b i) v k w = ifK (farSt 103 b i v k w) v.oneCell' (objK (farSt 103 b i v k w) (hp w b) i 1 (fun c T => arrK (fun a => k undef (put w b (.cells a T (0, 0)))) (c.setIfInBounds i v))) := st_scalar (by kernel_rfl) b i v k w
@[simp] theorem st_lodestarref18_Session (b i : Nat) (vs : Array Value) (k : Cont) (w : World) : st 116 (pt b i) (.agg vs) k w = ifK (farSt 116 b i (.agg vs) k w) (decide (vs.size = 10) && allOne vs) (objK (farSt 116 b i (.agg vs) k w) (hp w b) i 10 (fun c T => arrK (fun a => k undef (put w b (.cells a T (0, 0)))) (splice c i vs))) := st_agg (by kernel_rfl) b i vs k w
@[simp] theorem st_uint32 (b i : Nat) (v : Value) (k : Cont) (w : World) : st 22 (pt b i) v k w = ifK (farSt 22 b i v k w) v.oneCell' (objK (farSt 22 b i v k w) (hp w b) i 1 (fun c T => arrK (fun a => k undef (put w b (.cells a T (0, 0)))) (c.setIfInBounds i v))) := st_scalar (by kernel_rfl) b i v k w
@[simp] theorem st_uint64 (b i : Nat) (v : Value) (k : Cont) (w : World) : st 23 (pt b i) v k w = ifK (farSt 23 b i v k w) v.oneCell' (objK (farSt 23 b i v k w) (hp w b) i 1 (fun c T => arrK (fun a => k undef (put w b (.cells a T (0, 0)))) (c.setIfInBounds i v))) := st_scalar (by kernel_rfl) b i v k w
@[simp] theorem st_int (b i : Nat) (v : Value) (k : Cont) (w : World) : st 3 (pt b i) v k w = ifK (farSt 3 b i v k w) v.oneCell' (objK (farSt 3 b i v k w) (hp w b) i 1 (fun c T => arrK (fun a => k undef (put w b (.cells a T (0, 0)))) (c.setIfInBounds i v))) := st_scalar (by kernel_rfl) b i v k w
@[simp] theorem st_api_Filter (b i : Nat) (vs : Array Value) (k : Cont) (w : World) : st 32 (pt b i) (.agg vs) k w = ifK (farSt 32 b i (.agg vs) k w) (decide (vs.size = 3) && allOne vs) (objK (farSt 32 b i (.agg vs) k w) (hp w b) i 3 (fun c T => arrK (fun a => k undef (put w b (.cells a T (0, 0)))) (splice c i vs))) := st_agg (by kernel_rfl) b i vs k w
@[simp] theorem st_api_Message (b i : Nat) (vs : Array Value) (k : Cont) (w : World) : st 37 (pt b i) (.agg vs) k w = ifK (farSt 37 b i (.agg vs) k w) (decide (vs.size = 28) && allOne vs) (objK (farSt 37 b i (.agg vs) k w) (hp w b) i 28 (fun c T => arrK (fun a => k undef (put w b (.cells a T (0, 0)))) (splice c i vs))) := st_agg (by kernel_rfl) b i vs k w
@[simp] theorem st_bool (b i : Nat) (v : Value) (k : Cont) (w : World) : st 4 (pt b i) v k w = ifK (farSt 4 b i v k w) v.oneCell' (objK (farSt 4 b i v k w) (hp w b) i 1 (fun c T => arrK (fun a => k undef (put w b (.cells a T (0, 0)))) (c.setIfInBounds i v))) := st_scalar (by kernel_rfl) b i v k w
@[simp] theorem st_s_api_Message (b i : Nat) (v : Value) (k : Cont) (w : World) : st 42 (pt b i) v k w = ifK (farSt 42 b i v k w) v.oneCell' (objK (farSt 42 b i v k w) (hp w b) i 1 (fun c T => arrK (fun a => k undef (put w b (.cells a T (0, 0)))) (c.setIfInBounds i v))) := st_scalar (by kernel_rfl) b i v k w
@[simp] theorem st_s_int (b i : Nat) (v : Value) (k : Cont) (w : World) : st 43 (pt b i) v k w = ifK (farSt 43 b i v k w) v.oneCell' (objK (farSt 43 b i v k w) (hp w b) i 1 (fun c T => arrK (fun a => k undef (put w b (.cells a T (0, 0)))) (c.setIfInBounds i v))) := st_scalar (by kernel_rfl) b i v k w
@[simp] theorem st_api_Turn (b i : Nat) (vs : Array Value) (k : Cont) (w : World) : st 45 (pt b i) (.agg vs) k w = ifK (farSt 45 b i (.agg vs) k w) (decide (vs.size = 4) && allOne vs) (objK (farSt 45 b i (.agg vs) k w) (hp w b) i 4 (fun c T => arrK (fun a => k undef (put w b (.cells a T (0, 0)))) (splice c i vs))) := st_agg (by kernel_rfl) b i vs k w
@[simp] theorem st_s_uint64 (b i : Nat) (v : Value) (k : Cont) (w : World) : st 58 (pt b i) v k w = ifK (farSt 58 b i v k w) v.oneCell' (objK (farSt 58 b i v k w) (hp w b) i 1 (fun c T => arrK (fun a => k undef (put w b (.cells a T (0, 0)))) (c.setIfInBounds i v))) := st_scalar (by kernel_rfl) b i v k w
@[simp] theorem st_s__2_uint64 (b i : Nat) (v : Value) (k : Cont) (w : World) : st 70 (pt b i) v k w = ifK (farSt 70 b i v k w) v.oneCell' (objK (farSt 70 b i v k w) (hp w b) i 1 (fun c T => arrK (fun a => k undef (put w b (.cells a T (0, 0)))) (c.setIfInBounds i v))) := st_scalar (by kernel_rfl) b i v k w
@[simp] theorem st_s_lodestarref18_Session (b i : Nat) (v : Value) (k : Cont) (w : World) : st 73 (pt b i) v k w = ifK (farSt 73 b i v k w) v.oneCell' (objK (farSt 73 b i v k w) (hp w b) i 1 (fun c T => arrK (fun a => k undef (put w b (.cells a T (0, 0)))) (c.setIfInBounds i v))) := st_scalar (by kernel_rfl) b i v k w
@[simp] theorem st_p_session_conn (b i : Nat) (v : Value) (k : Cont) (w : World) : st 85 (pt b i) v k w = ifK (farSt 85 b i v k w) v.oneCell' (objK (farSt 85 b i v k w) (hp w b) i 1 (fun c T => arrK (fun a => k undef (put w b (.cells a T (0, 0)))) (c.setIfInBounds i v))) := st_scalar (by kernel_rfl) b i v k w
@[simp] theorem st_p_session_session (b i : Nat) (v : Value) (k : Cont) (w : World) : st 86 (pt b i) v k w = ifK (farSt 86 b i v k w) v.oneCell' (objK (farSt 86 b i v k w) (hp w b) i 1 (fun c T => arrK (fun a => k undef (put w b (.cells a T (0, 0)))) (c.setIfInBounds i v))) := st_scalar (by kernel_rfl) b i v k w
@[simp] theorem st_string (b i : Nat) (v : Value) (k : Cont) (w : World) : st 9 (pt b i) v k w = ifK (farSt 9 b i v k w) v.oneCell' (objK (farSt 9 b i v k w) (hp w b) i 1 (fun c T => arrK (fun a => k undef (put w b (.cells a T (0, 0)))) (c.setIfInBounds i v))) := st_scalar (by kernel_rfl) b i v k w

end Go.Proofs.Ytpdcllhmbjnooaa
