/- formatBits at base 16 -/
import Derived.Test.YthdepnahbhheoaaDoorAdP
import Derived.Laws.BytesArg
namespace Go.Proofs.YthdepnahbhheoaaDoor
open Go.RowKit

def hexDig (d : Nat) : Nat := if d < 10 then 48 + d else 87 + d
/-- The digits of n ahead of acc. -/
def hexGo : Nat → Nat → List Nat → List Nat
  | 0, n, acc => hexDig n :: acc
  | k + 1, n, acc => if n < 16 then hexDig n :: acc else hexGo k (n / 16) (hexDig (n % 16) :: acc)
def hexL (n : Nat) : List Nat := hexGo 3 n []

theorem hexGo_len : ∀ k n acc, (hexGo k n acc).length ≤ acc.length + k + 1
  | 0, n, acc => by simp [hexGo]
  | k + 1, n, acc => by
    rw [hexGo]; split
    · simp
    · have := hexGo_len k (n / 16) (hexDig (n % 16) :: acc); simp at this; omega
def u8s (l : List Nat) : List Value := l.map fun x : Nat => Value.int .u8 (x : Int)
theorem zero65 (w : World) : Arr (w.alloc (.cells Tryd.zeroCells99 99)) w.heap.size (u8s (List.replicate 65 0)) := by
  have h : Tryd.zeroCells99 = (u8s (List.replicate 65 0)).toArray := by kernel_rfl
  rw [h]; exact Arr.new w _ _
theorem hexDig_at (d : Nat) (h : d < 16) : hexDig d < 123 := by unfold hexDig; split <;> omega

theorem hexStr (m : Nat) (h : m < 16) (h' : m < 36) : ((({ data := #[48, 49, 50, 51, 52, 53, 54, 55, 56, 57, 97, 98, 99, 100, 101, 102, 103, 104, 105, 106, 107, 108, 109, 110, 111, 112, 113, 114, 115, 116, 117, 118, 119, 120, 121, 122] } : ByteArray)[m]'h').toNat : Nat) = hexDig m := by
  match m, h with
  | 0, _ | 1, _ | 2, _ | 3, _ | 4, _ | 5, _ | 6, _ | 7, _ | 8, _ | 9, _ | 10, _ | 11, _ | 12, _ | 13, _ | 14, _ | 15, _ => rfl
  | n + 16, h => omega
theorem slice65 (B m : Nat) (hm : m < 65) (W : World) : (Instr.sliceAt 99 (.pointer (some ⟨B, 0, none⟩)) (some (.int .i64 (m : Int))) none none).run Tryd.prog W = .ok (.slice (some ⟨B, m, none⟩) (65 - m) (65 - m)) W := by
  have hl : Tryd.prog.arrayLen 99 = 65 := by kernel_rfl
  have he : Tryd.prog.elem 99 = 5 := by kernel_rfl
  have ht : Tryd.prog.underlying 99 = some (.array (Tryd.prog.arrayLen 99) (Tryd.prog.elem 99)) := by rw [hl, he]; kernel_rfl
  rw [run_sliceAt_array_l W 99 ⟨B, 0, none⟩ ht .i64 (m : Int) (by omega) (by rw [hl]; omega), hl, he]
  simp only [Tryd.sizeOf5, Result.andThen, slicedAt, Int.toNat_natCast]
  rw [if_neg (by omega)]
  simp [Addr.add]
  intro h; exact h.symm
theorem conv65 (B m : Nat) (hm : m < 65) (W : World) (cur : List Nat) (hl : cur.length = 65) (hA : Arr W B (u8s cur)) :
    (convert 57 9 (.slice (some ⟨B, m, none⟩) (65 - m) (65 - m))).run Tryd.prog W = .ok (.string ⟨((cur.drop m).map UInt8.ofNat).toArray⟩) W := by
  have := run_convert_bytes_arg (P := Tryd.prog) W 57 5 Tryd.underlying57 (by kernel_rfl) B m (65 - m) (65 - m) ((cur.drop m).map fun x : Nat => (x : Int)) (by simp [hl]) (fun i hi => (hA (m + i) _ (by
    simp [u8s, List.getD_eq_getElem?_getD, List.getElem?_eq_getElem (show m + i < cur.length by omega)])).1) 9 (by kernel_rfl)
  rw [this]
  simp [strOfNums, Function.comp_def]
/-- One digit more ahead. -/
theorem drop_more (cur acc : List Nat) (k d : Nat) (hk : k < 65) (hl : cur.length = 65) (h : cur.drop (65 - k) = acc) : (cur.set (65 - k - 1) d).drop (65 - (k + 1)) = d :: acc := by
  have e : 65 - (k + 1) = 65 - k - 1 := by omega
  rw [e, List.drop_eq_getElem_cons (by simp; omega)]
  have e2 : 65 - k - 1 + 1 = 65 - k := by omega
  rw [e2, List.drop_set, if_pos (by omega), h]
  simp
theorem u8s_set (l : List Nat) (i d : Nat) : u8s (l.set i d) = (u8s l).set i (.int .u8 (d : Int)) := by simp [u8s, List.map_set]
set_option maxHeartbeats 1000000 in
set_option maxRecDepth 100000 in
theorem formatBits_c (n : Nat) (hn : n < 65536) (w : World) (h : w.cell? ⟨5, 15, none⟩ = some (.int .u8 4)) :
    Calls Tryd.prog 51 #[.slice none 0 0, .int .u64 (n : Int), .int .i64 16, .bool false, .bool false] w fun e w' => e = .returned (.tuple #[.slice none 0 0, .string ⟨((hexL n).map UInt8.ofNat).toArray⟩]) ∧ Below w.heap.size w w' := by
  have hT : ∀ w1, Below w.heap.size w w1 → Calls Tryd.prog 72 #[.int .u64 16] w1 fun e w' => e = .returned (.int .i64 4) ∧ w' = w1 := fun w1 hb => tz_c w1 (cellB hb h)
  have hP := pow2_c
  go_enter Tryd.func51, Tryd.ntmps51
  go_wp2_with (first | (go_at_call 72; refine (hT _ (by first | assumption | exact (Below.refl _ _).alloc (Nat.le_refl _) _)).mono ?_; rintro e w1 ⟨rfl, rfl⟩) | (go_at_call 71; refine (hP _).mono ?_; rintro e w1 ⟨rfl, rfl⟩))
  go_loopw [1, 13] (fun v1 v13 wr => ∃ (k m : Nat) (acc cur : List Nat), v1 = .int .u64 m ∧ v13 = .int .i64 (65 - (k : Int)) ∧ k ≤ 3 ∧ m * 16 ^ k < 65536 ∧ acc.length = k ∧ cur.length = 65 ∧ cur.drop (65 - k) = acc ∧ Hid (hexL n = hexGo (3 - k) m acc) ∧ Arr wr w.heap.size (u8s cur) ∧ Below w.heap.size w wr) (fun v1 _ _ => (intOf v1).toNat)
  case atStart => exact ⟨0, n, [], List.replicate 65 0, rfl, rfl, by omega, by omega, rfl, by simp, by simp, Lib.hid rfl, zero65 w, (Below.refl _ _).alloc (Nat.le_refl _) _⟩
  case round =>
    obtain ⟨k, m, acc, cur, rfl, rfl, hk, hm, hal, hcl, hdr, hH, hA, hb⟩ := hrel
    obtain ⟨hc, hf⟩ := hA (65 - k - 1) (.int .u8 ((cur.getD (65 - k - 1) 0 : Nat) : Int)) (by simp [u8s, List.getD_eq_getElem?_getD, List.getElem?_eq_getElem (show 65 - k - 1 < cur.length by omega)])
    have hm1 : m < 65536 := Nat.lt_of_le_of_lt (Nat.le_mul_of_pos_right m (Nat.pow_pos (by omega))) hm
    have HM := Lib.hid hm
    have HA := Lib.hid hA
    clear hm
    have HCL := Lib.hid hcl
    have HDR := Lib.hid hdr
    have HAL := Lib.hid hal
    clear hA hcl hdr hal
    by_cases hge : 16 ≤ m
    · have hand : bits .and .u64 (m : Int) 15 = ((m % 16 : Nat) : Int) := (bits_mask .u64 64 (by decide) (fun n h0 h1 => by simp [IntKind.wrap, IntKind.signed, IntKind.bits]; omega) 4 (by decide) m (by omega) (by omega)).trans (by simp)
      have hA' := HA.out.set (65 - k - 1) (.int .u8 ((hexDig (m % 16) : Nat) : Int))
      rw [← u8s_set] at hA'
      have HA2 := Lib.hid hA'
      clear hA'
      go_wp2_with (simp only [hand])
      simp only [hexStr (m % 16) (Nat.mod_lt _ (by decide))]
      refine ⟨⟨k + 1, m / 16, hexDig (m % 16) :: acc, cur.set (65 - k - 1) (hexDig (m % 16)), by go_num, by go_num, ?_, ?_, by simp [HAL.out], by simp [HCL.out], drop_more _ _ _ _ (by omega) HCL.out HDR.out, ?_, HA2.out, hb.setCell (Nat.le_refl _) _⟩, by simp [intOf]; omega⟩
      · have := HM.out
        rcases (by omega : k = 0 ∨ k = 1 ∨ k = 2 ∨ k = 3) with rfl | rfl | rfl | rfl <;> omega
      · have := HM.out
        rw [Nat.pow_succ]
        have h2 : m / 16 * 16 ≤ m := Nat.div_mul_le_self m 16
        have h3 : m / 16 * (16 ^ k * 16) = (m / 16 * 16) * 16 ^ k := by rw [Nat.mul_comm (16 ^ k) 16, Nat.mul_assoc]
        rw [h3]
        exact Nat.lt_of_le_of_lt (Nat.mul_le_mul_right _ h2) this
      · have hk3 : k < 3 := by
          have := HM.out
          rcases (by omega : k = 0 ∨ k = 1 ∨ k = 2 ∨ k = 3) with rfl | rfl | rfl | rfl <;> omega
        refine Lib.hid (hH.out.trans ?_)
        have e : 3 - k = (3 - (k + 1)) + 1 := by omega
        rw [e, hexGo, if_neg (by omega)]
    · have hA' := HA.out.set (65 - k - 1) (.int .u8 ((hexDig m : Nat) : Int))
      rw [← u8s_set] at hA'
      have hd := drop_more _ _ k (hexDig m) (by omega) HCL.out HDR.out
      have hsl : ∀ W4, (Instr.sliceAt 99 (.pointer (some ⟨w.heap.size, 0, none⟩)) (some (.int .i64 (65 - (k : Int) - 1))) none none).run Tryd.prog W4 = .ok (.slice (some ⟨w.heap.size, 65 - k - 1, none⟩) (65 - (65 - k - 1)) (65 - (65 - k - 1))) W4 := fun W4 => by
        rw [show (65 : Int) - (k : Int) - 1 = ((65 - k - 1 : Nat) : Int) by omega]
        exact slice65 _ _ (by omega) W4
      have hcv := conv65 _ (65 - k - 1) (by omega) _ _ (by simp [HCL.out]) hA'
      rw [show 65 - k - 1 = 65 - (k + 1) by omega] at hd
      have hm0 : hexL n = hexDig m :: acc := hH.out.trans (by
        cases (3 - k) with
        | zero => rfl
        | succ j => rw [hexGo, if_pos (by omega)])
      rw [show 65 - (k + 1) = 65 - k - 1 by omega] at hd
      rw [hd, ← hm0] at hcv
      have hs := hexStr m (by omega)
      have HA2 := Lib.hid hA'
      have HM0 := Lib.hid hm0
      clear hA' hd hm0
      go_wp2_with (simp only [hs])
      go_ret2
      exact ⟨rfl, hb.setCell (Nat.le_refl _) _⟩
end Go.Proofs.YthdepnahbhheoaaDoor
