/- The law's own questions (lives) -/
import Derived.Test.YthdepnahbhheoaaDoorAdS
namespace Go.Proofs.YthdepnahbhheoaaDoor
open Go.RowKit

theorem v4_ok (s : ByteArray) (n : Nat) (h : v4B s = some n) (hs : s.size < 4294967281) (w : World) (ok : Ok w) :
    Calls Tryd.prog 9 #[.string s] w fun e w' => e = .returned (.tuple #[.int .u32 (n % 4294967296 : Nat), .int .i64 0]) ∧ Below w.heap.size w w' :=
  (v4_c s hs w ok).mono fun e w' hp => by rw [h] at hp; exact hp
theorem v4_no (s : ByteArray) (h : v4B s = none) (hs : s.size < 4294967281) (w : World) (ok : Ok w) :
    Calls Tryd.prog 9 #[.string s] w fun e w' => e = .returned (.tuple #[.int .u32 0, .int .i64 17]) ∧ Below w.heap.size w w' :=
  (v4_c s hs w ok).mono fun e w' hp => by rw [h] at hp; exact hp
theorem v6_ok (s : ByteArray) (l : List Nat) (h : v6B s = some l) (hs : s.size < 4294967281) (w : World) (ok : Ok w) :
    Calls Tryd.prog 10 #[.string s] w fun e w' => e = .returned (.tuple #[.agg (u16s l).toArray, .int .i64 0]) ∧ Below w.heap.size w w' :=
  (v6_c s hs w ok).mono fun e w' hp => by rw [h] at hp; exact hp
theorem v6_no (s : ByteArray) (h : v6B s = none) (hs : s.size < 4294967281) (w : World) (ok : Ok w) :
    Calls Tryd.prog 10 #[.string s] w fun e w' => e = .returned (.tuple #[.agg (u16s (List.replicate 8 0)).toArray, .int .i64 17]) ∧ Below w.heap.size w w' :=
  (v6_c s hs w ok).mono fun e w' hp => by rw [h] at hp; exact hp

theorem lv1 : v4B ⟨#[48, 120, 55, 102, 46, 49]⟩ = some 2130706433 := by kernel_rfl
theorem lv2 : v4B ⟨#[49, 46, 50, 46, 51, 46, 50, 53, 54]⟩ = none := by kernel_rfl
theorem lv3 : v6B ⟨#[49, 58, 48, 58, 48, 58, 50, 58, 48, 58, 48, 58, 48, 58, 51]⟩ = some [1, 0, 0, 2, 0, 0, 0, 3] := by kernel_rfl
theorem lv4 : textV6B [1, 0, 0, 2, 0, 0, 0, 3] = ⟨#[49, 58, 48, 58, 48, 58, 50, 58, 58, 51]⟩ := by kernel_rfl
theorem lv5 : textV4B 2130706433 = ⟨#[49, 50, 55, 46, 48, 46, 48, 46, 49]⟩ := by kernel_rfl
theorem lv6 : endsB ⟨#[97, 46, 49]⟩ = true := by kernel_rfl
theorem lv7 : endsB ⟨#[49, 46, 97]⟩ = false := by kernel_rfl

theorem lv4c (w : World) (ok : Ok2 w) : Calls Tryd.prog 12 #[.agg #[.int .u16 1, .int .u16 0, .int .u16 0, .int .u16 2, .int .u16 0, .int .u16 0, .int .u16 0, .int .u16 3]] w fun e w' => e = .returned (.string ⟨#[49, 58, 48, 58, 48, 58, 50, 58, 58, 51]⟩) ∧ Below w.heap.size w w' := by
  have h := textV6_c [1, 0, 0, 2, 0, 0, 0, 3] rfl (fun j n h => by
    have := List.mem_of_getElem? h
    simp at this; omega) w ok
  rw [lv4] at h
  exact h
set_option maxRecDepth 100000 in
set_option maxHeartbeats 1000000 in
theorem lives_c (w : World) (ok : Ok2 w) :
    Calls Tryd.prog 7 #[] w fun e w' => e = .returned (.bool true) ∧ Below w.heap.size w w' := by
  have OK := Lib.hid ok
  clear ok
  go_enter Tryd.func7, Tryd.ntmps7
  go_wp2_with fail
  refine (v4_ok _ _ lv1 (by decide) _ OK.out.toOk).mono ?_
  rintro e w1 ⟨rfl, hb1⟩
  go_wp2_with fail
  refine (v4_no _ lv2 (by decide) _ (OK.out.below hb1).toOk).mono ?_
  rintro e w2 ⟨rfl, hb2'⟩
  have hb2 := belowT hb1 hb2'
  clear hb1 hb2'
  go_wp2_with fail
  refine (v6_ok _ _ lv3 (by decide) _ (OK.out.below hb2).toOk).mono ?_
  rintro e w3 ⟨rfl, hb3'⟩
  have hb3 := belowT hb2 hb3'
  clear hb2 hb3'
  simp only [u16s, List.map]
  go_wp2_with fail
  have hbA := hb3.alloc hb3.size (.cells #[.int .u16 1, .int .u16 0, .int .u16 0, .int .u16 2, .int .u16 0, .int .u16 0, .int .u16 0, .int .u16 3] 29)
  refine (lv4c _ (OK.out.below hbA)).mono ?_
  rintro e w4 ⟨rfl, hb4'⟩
  have hb4 := belowT hbA hb4'
  clear hb3 hbA hb4'
  go_wp2_with fail
  have h5 := textV4_c 2130706433 (by decide) w4 (OK.out.below hb4).toOk
  rw [lv5] at h5
  refine h5.mono ?_
  clear h5
  rintro e w5 ⟨rfl, hb5'⟩
  have hb5 := belowT hb4 hb5'
  clear hb4 hb5'
  go_wp2_with fail
  have h6 := ends_c ⟨#[97, 46, 49]⟩ (by decide) w5 (OK.out.below hb5).toOk
  rw [lv6] at h6
  refine h6.mono ?_
  clear h6
  rintro e w6 ⟨rfl, hb6'⟩
  have hb6 := belowT hb5 hb6'
  clear hb5 hb6'
  go_wp2_with fail
  have h7 := ends_c ⟨#[49, 46, 97]⟩ (by decide) w6 (OK.out.below hb6).toOk
  rw [lv7] at h7
  refine h7.mono ?_
  clear h7
  rintro e w7 ⟨rfl, hb7'⟩
  have hb7 := belowT hb6 hb7'
  clear hb6 hb7'
  go_wp2_with fail
  go_ret
  exact ⟨rfl, hb7⟩
end Go.Proofs.YthdepnahbhheoaaDoor
