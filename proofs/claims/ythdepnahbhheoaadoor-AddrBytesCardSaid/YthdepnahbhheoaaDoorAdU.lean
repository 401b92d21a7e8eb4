/- AddrDot: the walk -/
import Derived.Test.YthdepnahbhheoaaDoorAdT
namespace Go.Proofs.YthdepnahbhheoaaDoor
open Go.RowKit

def v4V : Option Nat → Nat
  | some n => n % 4294967296
  | none => 0
def v4E : Option Nat → Int
  | some _ => 0
  | none => 17
def v6V : Option (List Nat) → List Nat
  | some l => l
  | none => List.replicate 8 0
def v6E : Option (List Nat) → Int
  | some _ => 0
  | none => 17
theorem v4_r (s : ByteArray) (hs : s.size < 4294967281) (w : World) (ok : Ok w) :
    Calls Tryd.prog 9 #[.string s] w fun e w' => e = .returned (.tuple #[.int .u32 (v4V (v4B s) : Int), .int .i64 (v4E (v4B s))]) ∧ Below w.heap.size w w' := by
  cases h : v4B s with
  | none => exact v4_no s h hs w ok
  | some n => exact v4_ok s n h hs w ok
theorem v6_r (s : ByteArray) (hs : s.size < 4294967281) (w : World) (ok : Ok w) :
    Calls Tryd.prog 10 #[.string s] w fun e w' => e = .returned (.tuple #[.agg (u16s (v6V (v6B s))).toArray, .int .i64 (v6E (v6B s))]) ∧ Below w.heap.size w w' := by
  cases h : v6B s with
  | none => exact v6_no s h hs w ok
  | some n => exact v6_ok s n h hs w ok

/-- What AddrDot asks, in plain words. -/
def DotLaw (s : ByteArray) : Prop := s.size ≠ 0 → (∀ h : s.size - 1 < s.size, s[s.size - 1] ≠ 46) → endsB (s ++ ⟨#[46]⟩) = endsB s ∧ v4B (s ++ ⟨#[46]⟩) = v4B s ∧ v6B (s ++ ⟨#[46]⟩) = none

set_option maxRecDepth 100000 in
set_option maxHeartbeats 1000000 in
theorem addrDot_c (s : ByteArray) (hs : s.size ≤ 4294000000) (hlaw : DotLaw s) (w : World) (ok : Ok2 w) :
    Calls Tryd.prog 6 #[.string s] w fun e w' => e = .returned (.bool true) ∧ Below w.heap.size w w' := by
  have OK := Lib.hid ok
  have HLAW := Lib.hid hlaw
  clear ok hlaw
  by_cases h0 : s.size = 0
  · obtain rfl := size0 h0
    go_enter Tryd.func6, Tryd.ntmps6
    go_wp2_with fail
    refine (lives_c _ OK.out).mono ?_
    rintro e w1 ⟨rfl, hb1⟩
    go_wp2_with fail
    go_ret
    exact ⟨rfl, hb1⟩
  · have hpos : 0 < s.size := by omega
    have hemp : s.toList.isEmpty = false := by
      rw [Bool.eq_false_iff]
      intro h
      refine ne_nil h0 ?_
      rw [← ByteArray.toList_eq]
      exact List.isEmpty_iff.1 h
    have hi : s.size - 1 < s.size := by omega
    have hlt := (s[s.size - 1]).toNat_lt
    clear h0
    by_cases hd : (((s[s.size - 1]).toNat : Int) == 46) = true
    · go_enter Tryd.func6, Tryd.ntmps6
      go_wp2_with fail
      refine (lives_c _ OK.out).mono ?_
      rintro e w1 ⟨rfl, hb1⟩
      go_wp2_with fail
      go_ret
      exact ⟨rfl, hb1⟩
    · have hd : (((s[s.size - 1]).toNat : Int) == 46) = false := by simpa using hd
      obtain ⟨l1, l2, l3⟩ := HLAW.out (by omega) (fun h e => by
        rw [e] at hd; exact absurd hd (by decide))
      have hsz : (s ++ ⟨#[46]⟩ : ByteArray).size = s.size + 1 := by rw [ByteArray.size_append]; rfl
      have q1 : ∀ w1, Below w.heap.size w w1 → Calls Tryd.prog 9 #[.string s] w1 fun e w' => e = .returned (.tuple #[.int .u32 (v4V (v4B s) : Int), .int .i64 (v4E (v4B s))]) ∧ Below w.heap.size w w' :=
        fun w1 hb => (v4_r s (by omega) w1 (OK.out.below hb).toOk).mono fun e w' ⟨a, b⟩ => ⟨a, belowT hb b⟩
      have q2 : ∀ w1, Below w.heap.size w w1 → Calls Tryd.prog 9 #[.string (s ++ ⟨#[46]⟩)] w1 fun e w' => e = .returned (.tuple #[.int .u32 (v4V (v4B s) : Int), .int .i64 (v4E (v4B s))]) ∧ Below w.heap.size w w' :=
        fun w1 hb => (v4_r _ (by rw [hsz]; omega) w1 (OK.out.below hb).toOk).mono fun e w' ⟨a, b⟩ => ⟨by rw [a, l2], belowT hb b⟩
      have q3 : ∀ w1, Below w.heap.size w w1 → Calls Tryd.prog 10 #[.string (s ++ ⟨#[46]⟩)] w1 fun e w' => e = .returned (.tuple #[.agg (u16s (List.replicate 8 0)).toArray, .int .i64 17]) ∧ Below w.heap.size w w' :=
        fun w1 hb => (v6_no _ l3 (by rw [hsz]; omega) w1 (OK.out.below hb).toOk).mono fun e w' ⟨a, b⟩ => ⟨a, belowT hb b⟩
      have q4 : ∀ w1, Below w.heap.size w w1 → Calls Tryd.prog 11 #[.string s] w1 fun e w' => e = .returned (.bool (endsB s)) ∧ Below w.heap.size w w' :=
        fun w1 hb => (ends_c s (by omega) w1 (OK.out.below hb).toOk).mono fun e w' ⟨a, b⟩ => ⟨a, belowT hb b⟩
      have q5 : ∀ w1, Below w.heap.size w w1 → Calls Tryd.prog 11 #[.string (s ++ ⟨#[46]⟩)] w1 fun e w' => e = .returned (.bool (endsB s)) ∧ Below w.heap.size w w' :=
        fun w1 hb => (ends_c _ (by rw [hsz]; omega) w1 (OK.out.below hb).toOk).mono fun e w' ⟨a, b⟩ => ⟨by rw [a, l1], belowT hb b⟩
      clear l1 l2 l3 HLAW
      generalize v4E (v4B s) = ve at *
      generalize v4V (v4B s) = vv at *
      generalize endsB s = en at *
      have HSZ := Lib.hid hsz
      clear hsz
      have Q1 := Lib.hid q1
      have Q2 := Lib.hid q2
      have Q3 := Lib.hid q3
      have Q4 := Lib.hid q4
      have Q5 := Lib.hid q5
      clear q1 q2 q3 q4 q5
      go_enter Tryd.func6, Tryd.ntmps6
      go_wp2_with fail
      refine (lives_c _ OK.out).mono ?_
      rintro e w1 ⟨rfl, hb1⟩
      go_wp2_with fail
      refine (Q1.out _ hb1).mono ?_
      rintro e w2 ⟨rfl, hb2⟩
      go_wp2_with fail
      refine (Q2.out _ hb2).mono ?_
      rintro e w3 ⟨rfl, hb3⟩
      go_wp2_with fail
      refine (Q3.out _ hb3).mono ?_
      rintro e w4 ⟨rfl, hb4⟩
      simp only [u16s, List.replicate, List.map]
      go_wp2_with fail
      have hb4' := hb4.alloc hb4.size (.cells #[.int .u16 0, .int .u16 0, .int .u16 0, .int .u16 0, .int .u16 0, .int .u16 0, .int .u16 0, .int .u16 0] 29)
      refine (Q4.out _ hb4').mono ?_
      rintro e w5 ⟨rfl, hb5⟩
      go_wp2_with fail
      refine (Q5.out _ hb5).mono ?_
      rintro e w6 ⟨rfl, hb6⟩
      go_wp2_with fail
      go_ret
      exact ⟨rfl, hb6⟩
end Go.Proofs.YthdepnahbhheoaaDoor
