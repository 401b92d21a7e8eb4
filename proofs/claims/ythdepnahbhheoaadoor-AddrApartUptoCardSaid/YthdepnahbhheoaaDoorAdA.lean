/- addr's predicates on bytes, and addr.all -/
import Derived.Test.YthdepnahbhheoaaDoorBase
namespace Go.Proofs.YthdepnahbhheoaaDoor
open Go.RowKit Go.Lib Go.Shelf

def isDec (b : UInt8) : Bool := decide (48 ≤ b.toNat) && decide (b.toNat ≤ 57)
def isOct (b : UInt8) : Bool := decide (48 ≤ b.toNat) && decide (b.toNat ≤ 55)
def isLet (b : UInt8) : Bool := decide (97 ≤ (b ||| 32).toNat) && decide ((b ||| 32).toNat ≤ 102)
theorem or32 (b : UInt8) : bits .or .u8 (b.toNat : Int) 32 = ((b ||| 32).toNat : Int) := by
  have h : ∀ n : Fin 256, bits .or .u8 (n.val : Int) 32 = ((UInt8.ofNat n.val ||| 32).toNat : Int) := by decide +kernel
  have := h ⟨b.toNat, b.toNat_lt⟩
  simpa using this

set_option maxHeartbeats 400000 in
theorem decimal_c (b : UInt8) (w : World) :
    Calls Tryd.prog 22 #[.int .u8 b.toNat] w fun e w' => e = .returned (.bool (isDec b)) ∧ w' = w := by
  go_enter Tryd.func22, Tryd.ntmps22
  go_wp2_with fail
  all_goals (go_ret; refine ⟨ret_bool ?_, rfl⟩; rw [Bool.eq_iff_iff]; simp [isDec]; omega)
set_option maxHeartbeats 400000 in
theorem octal_c (b : UInt8) (w : World) :
    Calls Tryd.prog 31 #[.int .u8 b.toNat] w fun e w' => e = .returned (.bool (isOct b)) ∧ w' = w := by
  go_enter Tryd.func31, Tryd.ntmps31
  go_wp2_with fail
  all_goals (go_ret; refine ⟨ret_bool ?_, rfl⟩; rw [Bool.eq_iff_iff]; simp [isOct]; omega)
set_option maxHeartbeats 400000 in
theorem letter_c (b : UInt8) (w : World) :
    Calls Tryd.prog 30 #[.int .u8 b.toNat] w fun e w' => e = .returned (.bool (isLet b)) ∧ w' = w := by
  go_enter Tryd.func30, Tryd.ntmps30
  go_wp2_with fail
  all_goals (go_ret; have h := or32 b; refine ⟨ret_bool ?_, rfl⟩; rw [Bool.eq_iff_iff]; simp only [isLet, Bool.and_eq_true, decide_eq_true_eq, Bool.false_eq_true, false_iff, not_and]; omega)

/-- A function value and the predicate on bytes that it is. -/
structure Kind where
  f : Nat
  p : UInt8 → Bool
def Kind.ok (k : Kind) : Prop := Enters Tryd.prog k.f ∧ ∀ (b : UInt8) (w : World), Calls Tryd.prog k.f #[.int .u8 b.toNat] w fun e w' => e = .returned (.bool (k.p b)) ∧ w' = w
def Kind.val (k : Kind) : Value := .func (.func k.f) #[] #[]

set_option maxHeartbeats 400000 in
theorem all1_c (k : Kind) (hk : k.ok) (s : ByteArray) (i : Nat) (hi : i < s.size) (a c : Addr) (w : World) (_hs : s.size ≤ 4294967296)
    (ha : w.cell? a = some (.string s)) (hc : w.cell? c = some (.int .i64 i)) :
    Calls Tryd.prog 36 #[k.val, .pointer (some a), .pointer (some c)] w fun e w' => e = .returned (.bool (k.p s[i])) ∧ w' = w := by
  unfold Kind.val
  obtain ⟨eg, hk⟩ := hk
  unfold Enters at eg
  have hC := hk s[i] w
  go_enter Tryd.func36, Tryd.ntmps36
  go_wp2_with (go_at_fn k.f; refine hC.mono ?_; rintro e w' ⟨rfl, rfl⟩)
  go_ret
  exact ⟨rfl, rfl⟩
end Go.Proofs.YthdepnahbhheoaaDoor
