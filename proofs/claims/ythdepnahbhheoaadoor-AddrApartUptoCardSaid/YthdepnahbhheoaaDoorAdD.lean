/- strconv.ParseUint at the base 16, 64 bits -/
import Derived.Test.YthdepnahbhheoaaDoorAdC
namespace Go.Proofs.YthdepnahbhheoaaDoor
open Go.RowKit Go.Shelf

set_option maxHeartbeats 4000000 in
set_option maxRecDepth 100000 in
theorem parseUint_16_64 (t : ByteArray) (hne : t.size ≠ 0) (hmax : t.size ≤ 4294967296) (w : World) :
    Calls Tryd.prog 42 #[.string t, .int .i64 16, .int .i64 64] w fun e w' =>
      e = .returned (Lib.uintTupleM 90 18446744073709551615 (parseU 16 18446744073709551615 0 t.data.toList)) ∧ w' = Lib.bytesWorld w 5 t := by
  have hemp : t.toList.isEmpty = false := by
    rw [← decide_eq_emptyBytes]
    exact decide_eq_false (fun h => hne (by rw [h]; rfl))
  have hcv := Lib.run_convert_string_bytes (P := Tryd.prog) w 9 57 5 t (u := .string) Tryd.underlying9 Tryd.underlying57 Tryd.underlying5
  have hB : ∀ j, j < t.size → (Lib.bytesWorld w 5 t).cell? ⟨w.heap.size, j, none⟩ = some (.int .u8 (t.data.toList.getD j 0).toNat) := fun j hj => Lib.bytesWorld_cell w 5 t j hj
  obtain ⟨W1, hW1⟩ : ∃ W1, W1 = Lib.bytesWorld w 5 t := ⟨_, rfl⟩
  rw [← hW1] at hcv hB ⊢
  clear hW1
  obtain ⟨bs, hL⟩ : ∃ bs, bs = t.data.toList := ⟨_, rfl⟩
  have hLn : bs.length = t.size := by rw [hL, Lib.size_eq]
  rw [← hL] at hB ⊢
  clear hL
  have hmv : IntKind.u64.wrap (IntKind.u64.wrap 18446744073709551616 - 1) = 18446744073709551615 := by
    rw [IntKind.wrap_u64, IntKind.wrap_u64]
    decide
  go_enter Tryd.func42, Tryd.ntmps42
  go_wp2_with fail
  go_loop [12, 13, 101] (fun vu vn vi => ∃ (k acc : Nat) (a : Int), vu = .bool false ∧ vn = .int .u64 a ∧ vi = .int .i64 k ∧ k ≤ t.size ∧ Hid (a = (acc : Int) ∧ acc ≤ 18446744073709551615 ∧ parseU 16 18446744073709551615 0 bs = parseU 16 18446744073709551615 acc (bs.drop k)))
    (fun _ _ vi => t.size - (intOf vi).toNat)
  case atStart => exact ⟨0, 0, 0, rfl, rfl, rfl, by omega, rfl, by omega, rfl⟩
  case round =>
    obtain ⟨k, acc, a, rfl, rfl, rfl, hk, hh⟩ := hrel
    obtain ⟨ha, hacc, hdec⟩ := hh.out
    clear hh
    have a0 : 0 ≤ a := by omega
    have a1 : a ≤ 18446744073709551615 := by omega
    by_cases hkn : k < t.size
    · have hc := hB k hkn
      have hdrop : bs.drop k = bs[k]'(by omega) :: bs.drop (k + 1) := List.drop_eq_getElem_cons (by omega)
      have hget : bs.getD k 0 = bs[k]'(by omega) := by simp [List.getD, List.getElem?_eq_getElem (show k < bs.length by omega)]
      rw [hdrop] at hdec
      rw [hget] at hc
      generalize bs[k]'(by omega) = c at hc hdec
      have hc256 : c.toNat < 256 := c.toNat_lt
      clear hB hdrop hget
      have hlow : ∀ w, Calls Tryd.prog 57 #[.int .u8 (c.toNat : Int)] w fun e w' => e = .returned (.int .u8 ((c ||| 32).toNat : Int)) ∧ w' = w := fun w => by
        rw [← or32' c]; exact Tryd.internal_strconv_lower _ w
      by_cases hdig : 48 ≤ c.toNat ∧ c.toNat ≤ 57
      · obtain ⟨hd0, hd1⟩ := hdig
        have hd : digV c = c.toNat - 48 := by unfold digV; rw [if_pos ⟨hd0, hd1⟩]
        clear hlow
        by_cases hov : 1152921504606846976 ≤ acc
        · have hF : parseU 16 18446744073709551615 acc (c :: bs.drop (k + 1)) = .range := by rw [parseU, if_neg (by rw [hd]; omega), if_pos (by rw [hd]; omega)]
          rw [hF] at hdec
          have HD := Lib.hid hdec
          have iov : 1152921504606846976 ≤ a := by omega
          clear hdec hF hd ha hacc hov
          go_wp2_with (fail)
          all_goals go_ret2
          all_goals exact ⟨by rw [HD.out]; rfl, rfl⟩
        · have HN : Hid (a * 16 + ((c.toNat : Int) - 48) = ((acc * 16 + (c.toNat - 48) : Nat) : Int) ∧ acc * 16 + (c.toNat - 48) ≤ 18446744073709551615 ∧ parseU 16 18446744073709551615 0 bs = parseU 16 18446744073709551615 (acc * 16 + (c.toNat - 48)) (bs.drop (k + 1))) :=
            Lib.hid ⟨by omega, by omega, hdec.trans (by rw [parseU, if_neg (by rw [hd]; omega), if_neg (by rw [hd]; omega), hd])⟩
          have iov : a < 1152921504606846976 := by omega
          clear hdec hd ha hacc hov
          go_wp2_with (fail)
          all_goals refine ⟨⟨k + 1, acc * 16 + (c.toNat - 48), a * 16 + ((c.toNat : Int) - 48), rfl, (by first | rfl | (congr 1; omega)), (by first | rfl | (congr 1; omega)), by omega, HN⟩, by simp [intOf]; omega⟩
      · by_cases hlet : 97 ≤ (c ||| 32).toNat ∧ (c ||| 32).toNat ≤ 122
        · have hd : digV c = (c ||| 32).toNat - 87 := by unfold digV; rw [if_neg hdig, if_pos hlet]
          have h95 : (((c.toNat : Int)) == 95) = false := by
            rw [beq_eq_false_iff_ne]; intro h
            obtain rfl : c = 95 := by rw [← UInt8.toNat_inj]; simpa using Int.ofNat.inj h
            exact absurd hlet (by decide)
          obtain ⟨hl0, hl1⟩ := hlet
          generalize (c ||| 32).toNat = v at *
          by_cases h16 : v ≤ 102
          · skip
            by_cases hov : 1152921504606846976 ≤ acc
            · have hF : parseU 16 18446744073709551615 acc (c :: bs.drop (k + 1)) = .range := by rw [parseU, if_neg (by rw [hd]; omega), if_pos (by rw [hd]; omega)]
              rw [hF] at hdec
              have HD := Lib.hid hdec
              have iov : 1152921504606846976 ≤ a := by omega
              clear hdec hF hd ha hacc hov
              go_wp2_with (go_at_call 57; refine (hlow _).mono ?_; rintro e w' ⟨rfl, rfl⟩)
              all_goals go_ret2
              all_goals exact ⟨by rw [HD.out]; rfl, rfl⟩
            · have HN : Hid (a * 16 + ((v : Int) - 87) = ((acc * 16 + (v - 87) : Nat) : Int) ∧ acc * 16 + (v - 87) ≤ 18446744073709551615 ∧ parseU 16 18446744073709551615 0 bs = parseU 16 18446744073709551615 (acc * 16 + (v - 87)) (bs.drop (k + 1))) :=
                Lib.hid ⟨by omega, by omega, hdec.trans (by rw [parseU, if_neg (by rw [hd]; omega), if_neg (by rw [hd]; omega), hd])⟩
              have iov : a < 1152921504606846976 := by omega
              clear hdec hd ha hacc hov
              go_wp2_with (go_at_call 57; refine (hlow _).mono ?_; rintro e w' ⟨rfl, rfl⟩)
              all_goals refine ⟨⟨k + 1, acc * 16 + (v - 87), a * 16 + ((v : Int) - 87), rfl, (by first | rfl | (congr 1; omega)), (by first | rfl | (congr 1; omega)), by omega, HN⟩, by simp [intOf]; omega⟩
          · have hF : parseU 16 18446744073709551615 acc (c :: bs.drop (k + 1)) = Lib.NumEnd.syntax := by rw [parseU, if_pos (by rw [hd]; omega)]
            rw [hF] at hdec
            have HD := Lib.hid hdec
            clear hdec hF hd ha hacc
            go_wp2_with (go_at_call 57; refine (hlow _).mono ?_; rintro e w' ⟨rfl, rfl⟩)
            all_goals go_ret2
            all_goals exact ⟨by rw [HD.out]; rfl, rfl⟩
        · have hd : digV c = 99 := by unfold digV; rw [if_neg hdig, if_neg hlet]
          have hF : parseU 16 18446744073709551615 acc (c :: bs.drop (k + 1)) = Lib.NumEnd.syntax := by rw [parseU, if_pos (by rw [hd]; omega)]
          rw [hF] at hdec
          have HD := Lib.hid hdec
          clear hdec hF hd ha hacc
          by_cases h95 : c.toNat = 95
          · obtain rfl : c = 95 := by rw [← UInt8.toNat_inj]; simpa using h95
            have hc' : W1.cell? ⟨w.heap.size, k, none⟩ = some (.int .u8 95) := hc
            have hlow' : ∀ w, Calls Tryd.prog 57 #[.int .u8 95] w fun e w' => e = .returned (.int .u8 127) ∧ w' = w := hlow
            clear hc hlow hdig hlet h95 hc256
            go_wp2_with (go_at_call 57; refine (hlow' _).mono ?_; rintro e w' ⟨rfl, rfl⟩)
            all_goals go_ret2
            all_goals exact ⟨by rw [HD.out]; rfl, rfl⟩
          · have h95' : (((c.toNat : Int)) == 95) = false := by rw [beq_eq_false_iff_ne]; omega
            clear h95
            generalize (c ||| 32).toNat = v at *
            by_cases hd1 : 48 ≤ c.toNat
            all_goals by_cases hl1 : 97 ≤ v
            all_goals go_wp2_with (go_at_call 57; refine (hlow _).mono ?_; rintro e w' ⟨rfl, rfl⟩)
            all_goals go_ret2
            all_goals exact ⟨by rw [HD.out]; rfl, rfl⟩
    · -- THE BYTES ARE AT AN END
      have hkk : k = t.size := by omega
      subst hkk
      have hF : parseU 16 18446744073709551615 acc (bs.drop t.size) = .ok acc := by rw [List.drop_eq_nil_of_le (by omega)]; rfl
      rw [hF] at hdec
      subst ha
      clear hacc hF a0 a1
      go_wp2_with fail
      go_ret2
      exact ⟨rfl, rfl⟩
end Go.Proofs.YthdepnahbhheoaaDoor
