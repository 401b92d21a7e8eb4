/- AddrForms: the walk -/
import Derived.Test.YthdepnahbhheoaaDoorPlC
namespace Go.Proofs.YthdepnahbhheoaaDoor
open Go.RowKit

theorem textV4_short (N : Nat) : (textV4B N).size ≤ 15 := by
  rw [Lib.size_eq]; have := v4join_short N; simpa [textV4B, joinB] using this
set_option maxRecDepth 100000 in
set_option maxHeartbeats 1000000 in
theorem addrForms_c (N : Nat) (hN : N < 4294967296) (s : ByteArray) (hs : s.size ≤ 4294000000) (w : World) (ok : Ok2 w) :
    Calls Tryd.prog 3 #[.int .u32 N, .string s] w fun e w' => e = .returned (.bool true) ∧ Below w.heap.size w w' := by
  have OK := Lib.hid ok
  clear ok
  have sz1 : (textV4B N ++ ⟨#[46]⟩ : ByteArray).size = (textV4B N).size + 1 := by rw [ByteArray.size_append]; rfl
  have sz2 : (⟨#[58, 58]⟩ ++ textV4B N : ByteArray).size = 2 + (textV4B N).size := by rw [ByteArray.size_append]; rfl
  have hsh := textV4_short N
  have q0 : ∀ w1, Below w.heap.size w w1 → Calls Tryd.prog 8 #[.int .u32 (N : Int)] w1 fun e w' => e = .returned (.string (textV4B N)) ∧ Below w.heap.size w w' :=
    fun w1 hb => (textV4_c N hN w1 (OK.out.below hb).toOk).mono fun e w' ⟨a, b⟩ => ⟨a, belowT hb b⟩
  have q1 : ∀ w1, Below w.heap.size w w1 → Calls Tryd.prog 9 #[.string (textV4B N ++ ⟨#[46]⟩)] w1 fun e w' => e = .returned (.tuple #[.int .u32 (N : Int), .int .i64 0]) ∧ Below w.heap.size w w' :=
    fun w1 hb => (v4_ok _ N (v4_text_dot N hN) (by rw [sz1]; omega) w1 (OK.out.below hb).toOk).mono fun e w' ⟨a, b⟩ => ⟨by rw [a, Nat.mod_eq_of_lt hN], belowT hb b⟩
  have q2 : ∀ w1, Below w.heap.size w w1 → Calls Tryd.prog 10 #[.string (⟨#[58, 58]⟩ ++ textV4B N)] w1 fun e w' => e = .returned (.tuple #[.agg (u16s [0, 0, 0, 0, 0, 0, N / 65536, N % 65536]).toArray, .int .i64 0]) ∧ Below w.heap.size w w' :=
    fun w1 hb => (v6_ok _ _ (v6_text4 N hN) (by rw [sz2]; omega) w1 (OK.out.below hb).toOk).mono fun e w' ⟨a, b⟩ => ⟨a, belowT hb b⟩
  have hne := neq8 [0, 0, 0, 0, 0, 0, N / 65536, N % 65536] [0, 0, 0, 0, 0, 0, N / 65536, N % 65536] rfl rfl
  simp only [u16s, List.map] at q2
  have hw : IntKind.u16.wrap (N : Int) = (N : Int) % 65536 := by rw [IntKind.wrap_u16]
  have hne : ∀ W, (binOp .neq 29 (.agg #[.int .u16 0, .int .u16 0, .int .u16 0, .int .u16 0, .int .u16 0, .int .u16 0, .int .u16 ((N : Int) / 65536), .int .u16 ((N : Int) % 65536)]) (.agg #[.int .u16 0, .int .u16 0, .int .u16 0, .int .u16 0, .int .u16 0, .int .u16 0, .int .u16 ((N : Int) / 65536), .int .u16 ((N : Int) % 65536)])).run Tryd.prog W = .ok (.bool false) W := fun W => by
    have h := hne W
    simp only [decide_true, Bool.not_true] at h
    simpa [u16s] using h
  have Q0 := Lib.hid q0
  have Q1 := Lib.hid q1
  have Q2 := Lib.hid q2
  clear q0 q1 q2 sz1 sz2
  generalize textV4B N = T at *
  have hN' : (N : Int) < 4294967296 := by omega
  go_enter Tryd.func3, Tryd.ntmps3
  go_wp2_with fail
  refine (lives_c _ OK.out).mono ?_
  rintro e w1 ⟨rfl, hb1⟩
  go_wp2_with fail
  refine (Q0.out _ hb1).mono ?_
  rintro e w2 ⟨rfl, hb2⟩
  go_wp2_with fail
  refine (Q1.out _ hb2).mono ?_
  rintro e w3 ⟨rfl, hb3⟩
  go_wp2_with fail
  refine (Q2.out _ hb3).mono ?_
  rintro e w4 ⟨rfl, hb4⟩
  have hb4' := hb4.alloc hb4.size (.cells #[.int .u16 0, .int .u16 0, .int .u16 0, .int .u16 0, .int .u16 0, .int .u16 0, .int .u16 ((N : Int) / 65536), .int .u16 ((N : Int) % 65536)] 29)
  cases hr : v4B s with
  | none =>
    have q3 := fun w1 (hb : Below w.heap.size w w1) => v4_no s hr (by omega) w1 (OK.out.below hb).toOk
    clear hr
    go_wp2_with fail
    refine (q3 _ hb4').mono ?_
    rintro e w5 ⟨rfl, hb5⟩
    go_wp2_with fail
    go_ret
    exact ⟨rfl, belowT hb4' hb5⟩
  | some m =>
    have q3 := fun w1 (hb : Below w.heap.size w w1) => v4_ok s m hr (by omega) w1 (OK.out.below hb).toOk
    have he := v4_ends s m hr
    have hm : m % 4294967296 < 4294967296 := Nat.mod_lt _ (by decide)
    have q4 := fun w1 (hb : Below w.heap.size w w1) => textV4_c _ hm w1 (OK.out.below hb).toOk
    have q5 := fun w1 (hb : Below w.heap.size w w1) => v4_ok _ _ (v4_text _ hm) (by have := textV4_short (m % 4294967296); omega) w1 (OK.out.below hb).toOk
    have q6 := fun w1 (hb : Below w.heap.size w w1) => ends_c s (by omega) w1 (OK.out.below hb).toOk
    rw [he] at q6
    rw [Nat.mod_eq_of_lt hm] at q5
    generalize textV4B (m % 4294967296) = T2 at *
    generalize m % 4294967296 = k at *
    clear hr he
    have Q3 := Lib.hid q3
    have Q4 := Lib.hid q4
    have Q5 := Lib.hid q5
    have Q6 := Lib.hid q6
    clear q3 q4 q5 q6
    go_wp2_with fail
    refine (Q3.out _ hb4').mono ?_
    rintro e w5 ⟨rfl, hb5⟩
    have hb5' := belowT hb4' hb5
    go_wp2_with fail
    refine (Q4.out _ hb5').mono ?_
    rintro e w6 ⟨rfl, hb6⟩
    have hb6' := belowT hb5' hb6
    go_wp2_with fail
    refine (Q5.out _ hb6').mono ?_
    rintro e w7 ⟨rfl, hb7⟩
    have hb7' := belowT hb6' hb7
    go_wp2_with fail
    refine (Q6.out _ hb7').mono ?_
    rintro e w8 ⟨rfl, hb8⟩
    have hb8' := belowT hb7' hb8
    go_wp2_with fail
    go_ret
    exact ⟨rfl, hb8'⟩
end Go.Proofs.YthdepnahbhheoaaDoor
