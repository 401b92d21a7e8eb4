/- addr.V4 -/
import Derived.Test.YthdepnahbhheoaaDoorAdI
namespace Go.Proofs.YthdepnahbhheoaaDoor
open Go.RowKit Go.Shelf

theorem parseU_le (base M : Nat) : ∀ (l : List UInt8) (acc v : Nat), acc ≤ M → parseU base M acc l = .ok v → v ≤ M
  | [], acc, v, ha, h => by simp only [parseU, Lib.NumEnd.ok.injEq] at h; omega
  | c :: r, acc, v, ha, h => by
    rw [parseU] at h
    split at h
    · cases h
    · split at h
      · cases h
      · exact parseU_le base M r _ v (by omega) h
theorem numG_le (base : Nat) (l : List UInt8) : numG base l < 18446744073709551616 := by
  unfold numG
  cases h : parseUS base 18446744073709551615 l with
  | ok v =>
    unfold parseUS at h
    split at h
    · cases h
    · have := parseU_le _ _ _ _ _ (by omega) h; simp only; omega
  | range => simp
  | _ => simp
theorem numS_le (l : List UInt8) : (numS l).1 < 18446744073709551616 := by
  unfold numS
  split
  · split
    · split
      · simp only; split
        · exact numG_le _ _
        · decide
      · simp only; split
        · exact numG_le _ _
        · decide
    · simp only; split
      · exact numG_le _ _
      · decide
  · simp only; split
    · exact numG_le _ _
    · decide
  · decide

-- BEGIN
theorem or_bd {a b : Nat} (ha : a < 18446744073709551616) (hb : b < 18446744073709551616) : a ||| b < 18446744073709551616 := by
  have := @Nat.or_lt_two_pow a b 64 ha hb
  exact this
theorem v4_next {acc N m acc' : Nat} {a v : Int} (ha : a = acc) (hv : v = N) (h1 : acc < 18446744073709551616) (h2 : N * m < 18446744073709551616) (he : acc' = acc ||| N * m) : bits .or .u64 a (v * (m : Int)) = (acc' : Int) ∧ acc' < 18446744073709551616 := by
  subst ha; subst hv; subst he
  exact ⟨by have := bits_or_u64_nat acc (N * m) h1 h2; simpa using this, or_bd h1 h2⟩
theorem v4_last {acc N acc' : Nat} {a v : Int} (ha : a = acc) (hv : v = N) (h1 : acc < 18446744073709551616) (h2 : N < 18446744073709551616) (he : acc' = acc ||| N) : bits .or .u64 a v = (acc' : Int) ∧ acc' < 18446744073709551616 := by
  subst ha; subst hv; subst he
  exact ⟨bits_or_u64_nat acc N h1 h2, or_bd h1 h2⟩

set_option maxHeartbeats 4000000 in
set_option maxRecDepth 100000 in
theorem v4_1 (s : ByteArray) (hs : s.size < 4294967281) (h4 : (partsB s).length = 1) (w : World) (ok : Ok w) :
    Calls Tryd.prog 9 #[.string s] w (V4Post (v4go 1 0 0 (partsB s)) w) := by
  have hP := parts_c s w ok hs
  have hN : ∀ x ∈ partsB s, ∀ w1, Below w.heap.size w w1 → Calls Tryd.prog 18 #[.string x] w1 fun e w' => e = .returned (.tuple #[.int .u64 (numS x.data.toList).1, .bool (numS x.data.toList).2]) ∧ Below w1.heap.size w1 w' :=
    fun x hx w1 hb => (number_c x (by have := partsB_sub s x hx; omega) w1 (ok.below hb)).mono fun e w' ⟨a, b⟩ => ⟨a, b⟩
  generalize partsB s = ps at *
  obtain ⟨R, hR⟩ : ∃ R, R = v4go 1 0 0 ps := ⟨_, rfl⟩
  rw [← hR]
  have HR := Lib.hid hR
  have HL := Lib.hid h4
  rw [h4] at hP
  clear ok hR h4
  go_enter Tryd.func9, Tryd.ntmps9
  go_wp2_with fail
  refine hP.mono ?_
  rintro e w1 ⟨⟨c, rfl⟩, hS, hb⟩
  clear hP
  have HN := Lib.hid hN
  have HS := Lib.hid hS
  clear hN hS
  go_wp2_with fail
  go_loopw [5, 18] (fun v5 v18 wr => ∃ (k acc : Nat) (a : Int), v5 = .int .u64 a ∧ v18 = .int .i64 k ∧ k ≤ 1 ∧ Hid (a = (acc : Int) ∧ acc < 18446744073709551616 ∧ R = v4go 1 k acc (ps.drop k)) ∧ Below w.heap.size w wr ∧ Hid (Strs wr w.heap.size ps)) (fun _ v18 _ => 1 - (intOf v18).toNat)
  case atStart => exact ⟨0, 0, 0, rfl, rfl, by omega, Lib.hid ⟨rfl, by omega, HR.out⟩, hb, HS⟩
  case round =>
    obtain ⟨k, acc, a, rfl, rfl, hk, hh, hbr, hSr⟩ := hrel
    obtain ⟨ha, hacc, hdec⟩ := hh.out
    have a0 : 0 ≤ a := by omega
    have a1 : a < 18446744073709551616 := by omega
    clear hh
    by_cases hlt : k < 1
    · obtain ⟨x, hx⟩ : ∃ x, ps[k]? = some x := ⟨_, List.getElem?_eq_getElem (by rw [HL.out]; exact hlt)⟩
      have hdrop : ps.drop k = x :: ps.drop (k + 1) := Lib.drop_at hx
      have hcell := hSr.out k x hx
      have hNx := HN.out x (List.mem_of_getElem? hx)
      have hle := numS_le x.data.toList
      rw [hdrop, v4go] at hdec
      obtain ⟨v, hv⟩ : ∃ v : Int, v = ((numS x.data.toList).1 : Int) := ⟨_, rfl⟩
      rw [← hv] at hNx
      generalize (numS x.data.toList).1 = N at *
      generalize (numS x.data.toList).2 = B at *
      have v0 : 0 ≤ v := by omega
      have v1 : v < 18446744073709551616 := by omega
      have HD := Lib.hid hdec
      have HV := Lib.hid hv
      have HA := Lib.hid ha
      clear hdec hx hdrop hv ha
      have hS2 : ∀ w1, Below wr.heap.size wr w1 → Hid (Strs w1 w.heap.size ps) := fun w1 h => Lib.hid (hSr.out.below h)
      have hB2 : ∀ w1, Below wr.heap.size wr w1 → Below w.heap.size w w1 := fun w1 h => belowT hbr h
      rcases (show k = 0 by omega) with rfl
      · cases B
        · obtain rfl : R = none := by rw [HD.out]; simp
          clear HD
          go_wp2_with (go_at_call 18; refine (hNx _ (by assumption)).mono ?_; rintro e w1 ⟨rfl, hb1⟩)
          go_ret2
          exact ⟨rfl, hB2 _ hb1⟩
        · go_wp2_with (go_at_call 18; refine (hNx _ (by assumption)).mono ?_; rintro e w1 ⟨rfl, hb1⟩)
          · have hz : (v / 4294967296 != 0) = true := by assumption
            have hn : ¬ N / 2 ^ (8 * (5 - 1)) = 0 := by
              intro h; rw [bne_iff_ne] at hz; apply hz; have := HV.out; simp at h; omega
            obtain rfl : R = none := by rw [HD.out]; simp only [if_true]; rw [if_neg hn]
            go_ret2
            exact ⟨rfl, hB2 _ hb1⟩
          · have hz : (v / 4294967296 != 0) = false := by assumption
            have hn : N / 2 ^ (8 * (5 - 1)) = 0 := by
              rw [bne_eq_false_iff_eq] at hz; have := HV.out; simp; omega
            obtain ⟨e1, e2⟩ := v4_last HA.out HV.out hacc hle rfl
            exact ⟨⟨1, acc ||| N, _, rfl, rfl, by omega, Lib.hid ⟨e1, e2, by rw [HD.out]; simp only [if_true]; rw [if_pos hn]⟩, hB2 _ hb1, hS2 _ hb1⟩, by simp [intOf]⟩
    · have hkn : k = 1 := by omega
      subst hkn
      have : R = some acc := by rw [hdec, List.drop_eq_nil_of_le (by rw [HL.out]; exact Nat.le_refl _)]; rfl
      subst this
      subst ha
      clear hdec
      go_wp2_with fail
      go_ret2
      exact ⟨by rfl, hbr⟩

set_option maxHeartbeats 4000000 in
set_option maxRecDepth 100000 in
theorem v4_2 (s : ByteArray) (hs : s.size < 4294967281) (h4 : (partsB s).length = 2) (w : World) (ok : Ok w) :
    Calls Tryd.prog 9 #[.string s] w (V4Post (v4go 2 0 0 (partsB s)) w) := by
  have hP := parts_c s w ok hs
  have hN : ∀ x ∈ partsB s, ∀ w1, Below w.heap.size w w1 → Calls Tryd.prog 18 #[.string x] w1 fun e w' => e = .returned (.tuple #[.int .u64 (numS x.data.toList).1, .bool (numS x.data.toList).2]) ∧ Below w1.heap.size w1 w' :=
    fun x hx w1 hb => (number_c x (by have := partsB_sub s x hx; omega) w1 (ok.below hb)).mono fun e w' ⟨a, b⟩ => ⟨a, b⟩
  generalize partsB s = ps at *
  obtain ⟨R, hR⟩ : ∃ R, R = v4go 2 0 0 ps := ⟨_, rfl⟩
  rw [← hR]
  have HR := Lib.hid hR
  have HL := Lib.hid h4
  rw [h4] at hP
  clear ok hR h4
  go_enter Tryd.func9, Tryd.ntmps9
  go_wp2_with fail
  refine hP.mono ?_
  rintro e w1 ⟨⟨c, rfl⟩, hS, hb⟩
  clear hP
  have HN := Lib.hid hN
  have HS := Lib.hid hS
  clear hN hS
  go_wp2_with fail
  go_loopw [5, 18] (fun v5 v18 wr => ∃ (k acc : Nat) (a : Int), v5 = .int .u64 a ∧ v18 = .int .i64 k ∧ k ≤ 2 ∧ Hid (a = (acc : Int) ∧ acc < 18446744073709551616 ∧ R = v4go 2 k acc (ps.drop k)) ∧ Below w.heap.size w wr ∧ Hid (Strs wr w.heap.size ps)) (fun _ v18 _ => 2 - (intOf v18).toNat)
  case atStart => exact ⟨0, 0, 0, rfl, rfl, by omega, Lib.hid ⟨rfl, by omega, HR.out⟩, hb, HS⟩
  case round =>
    obtain ⟨k, acc, a, rfl, rfl, hk, hh, hbr, hSr⟩ := hrel
    obtain ⟨ha, hacc, hdec⟩ := hh.out
    have a0 : 0 ≤ a := by omega
    have a1 : a < 18446744073709551616 := by omega
    clear hh
    by_cases hlt : k < 2
    · obtain ⟨x, hx⟩ : ∃ x, ps[k]? = some x := ⟨_, List.getElem?_eq_getElem (by rw [HL.out]; exact hlt)⟩
      have hdrop : ps.drop k = x :: ps.drop (k + 1) := Lib.drop_at hx
      have hcell := hSr.out k x hx
      have hNx := HN.out x (List.mem_of_getElem? hx)
      have hle := numS_le x.data.toList
      rw [hdrop, v4go] at hdec
      obtain ⟨v, hv⟩ : ∃ v : Int, v = ((numS x.data.toList).1 : Int) := ⟨_, rfl⟩
      rw [← hv] at hNx
      generalize (numS x.data.toList).1 = N at *
      generalize (numS x.data.toList).2 = B at *
      have v0 : 0 ≤ v := by omega
      have v1 : v < 18446744073709551616 := by omega
      have HD := Lib.hid hdec
      have HV := Lib.hid hv
      have HA := Lib.hid ha
      clear hdec hx hdrop hv ha
      have hS2 : ∀ w1, Below wr.heap.size wr w1 → Hid (Strs w1 w.heap.size ps) := fun w1 h => Lib.hid (hSr.out.below h)
      have hB2 : ∀ w1, Below wr.heap.size wr w1 → Below w.heap.size w w1 := fun w1 h => belowT hbr h
      rcases (show k = 0 ∨ k = 1 by omega) with rfl | rfl
      · cases B
        · obtain rfl : R = none := by rw [HD.out]; simp
          clear HD
          go_wp2_with (go_at_call 18; refine (hNx _ (by assumption)).mono ?_; rintro e w1 ⟨rfl, hb1⟩)
          go_ret2
          exact ⟨rfl, hB2 _ hb1⟩
        · go_wp2_with (go_at_call 18; refine (hNx _ (by assumption)).mono ?_; rintro e w1 ⟨rfl, hb1⟩)
          · have hz : v ≤ 255 := by assumption
            have hn : ¬ 255 < N := by have := HV.out; omega
            obtain ⟨e1, e2⟩ := v4_next (m := 16777216) HA.out HV.out hacc (by omega) rfl
            exact ⟨⟨1, acc ||| N * 16777216, _, rfl, rfl, by omega, Lib.hid ⟨e1, e2, by rw [HD.out]; simp [hn]⟩, hB2 _ hb1, hS2 _ hb1⟩, by simp [intOf]⟩
          · have hz : 255 < v := by assumption
            have hn : 255 < N := by have := HV.out; omega
            obtain rfl : R = none := by rw [HD.out]; simp [hn]
            go_ret2
            exact ⟨rfl, hB2 _ hb1⟩
      · cases B
        · obtain rfl : R = none := by rw [HD.out]; simp
          clear HD
          go_wp2_with (go_at_call 18; refine (hNx _ (by assumption)).mono ?_; rintro e w1 ⟨rfl, hb1⟩)
          go_ret2
          exact ⟨rfl, hB2 _ hb1⟩
        · go_wp2_with (go_at_call 18; refine (hNx _ (by assumption)).mono ?_; rintro e w1 ⟨rfl, hb1⟩)
          · have hz : (v / 16777216 != 0) = true := by assumption
            have hn : ¬ N / 2 ^ (8 * (5 - 2)) = 0 := by
              intro h; rw [bne_iff_ne] at hz; apply hz; have := HV.out; simp at h; omega
            obtain rfl : R = none := by rw [HD.out]; simp only [if_true]; rw [if_neg hn]
            go_ret2
            exact ⟨rfl, hB2 _ hb1⟩
          · have hz : (v / 16777216 != 0) = false := by assumption
            have hn : N / 2 ^ (8 * (5 - 2)) = 0 := by
              rw [bne_eq_false_iff_eq] at hz; have := HV.out; simp; omega
            obtain ⟨e1, e2⟩ := v4_last HA.out HV.out hacc hle rfl
            exact ⟨⟨2, acc ||| N, _, rfl, rfl, by omega, Lib.hid ⟨e1, e2, by rw [HD.out]; simp only [if_true]; rw [if_pos hn]⟩, hB2 _ hb1, hS2 _ hb1⟩, by simp [intOf]⟩
    · have hkn : k = 2 := by omega
      subst hkn
      have : R = some acc := by rw [hdec, List.drop_eq_nil_of_le (by rw [HL.out]; exact Nat.le_refl _)]; rfl
      subst this
      subst ha
      clear hdec
      go_wp2_with fail
      go_ret2
      exact ⟨by rfl, hbr⟩

set_option maxHeartbeats 4000000 in
set_option maxRecDepth 100000 in
theorem v4_3 (s : ByteArray) (hs : s.size < 4294967281) (h4 : (partsB s).length = 3) (w : World) (ok : Ok w) :
    Calls Tryd.prog 9 #[.string s] w (V4Post (v4go 3 0 0 (partsB s)) w) := by
  have hP := parts_c s w ok hs
  have hN : ∀ x ∈ partsB s, ∀ w1, Below w.heap.size w w1 → Calls Tryd.prog 18 #[.string x] w1 fun e w' => e = .returned (.tuple #[.int .u64 (numS x.data.toList).1, .bool (numS x.data.toList).2]) ∧ Below w1.heap.size w1 w' :=
    fun x hx w1 hb => (number_c x (by have := partsB_sub s x hx; omega) w1 (ok.below hb)).mono fun e w' ⟨a, b⟩ => ⟨a, b⟩
  generalize partsB s = ps at *
  obtain ⟨R, hR⟩ : ∃ R, R = v4go 3 0 0 ps := ⟨_, rfl⟩
  rw [← hR]
  have HR := Lib.hid hR
  have HL := Lib.hid h4
  rw [h4] at hP
  clear ok hR h4
  go_enter Tryd.func9, Tryd.ntmps9
  go_wp2_with fail
  refine hP.mono ?_
  rintro e w1 ⟨⟨c, rfl⟩, hS, hb⟩
  clear hP
  have HN := Lib.hid hN
  have HS := Lib.hid hS
  clear hN hS
  go_wp2_with fail
  go_loopw [5, 18] (fun v5 v18 wr => ∃ (k acc : Nat) (a : Int), v5 = .int .u64 a ∧ v18 = .int .i64 k ∧ k ≤ 3 ∧ Hid (a = (acc : Int) ∧ acc < 18446744073709551616 ∧ R = v4go 3 k acc (ps.drop k)) ∧ Below w.heap.size w wr ∧ Hid (Strs wr w.heap.size ps)) (fun _ v18 _ => 3 - (intOf v18).toNat)
  case atStart => exact ⟨0, 0, 0, rfl, rfl, by omega, Lib.hid ⟨rfl, by omega, HR.out⟩, hb, HS⟩
  case round =>
    obtain ⟨k, acc, a, rfl, rfl, hk, hh, hbr, hSr⟩ := hrel
    obtain ⟨ha, hacc, hdec⟩ := hh.out
    have a0 : 0 ≤ a := by omega
    have a1 : a < 18446744073709551616 := by omega
    clear hh
    by_cases hlt : k < 3
    · obtain ⟨x, hx⟩ : ∃ x, ps[k]? = some x := ⟨_, List.getElem?_eq_getElem (by rw [HL.out]; exact hlt)⟩
      have hdrop : ps.drop k = x :: ps.drop (k + 1) := Lib.drop_at hx
      have hcell := hSr.out k x hx
      have hNx := HN.out x (List.mem_of_getElem? hx)
      have hle := numS_le x.data.toList
      rw [hdrop, v4go] at hdec
      obtain ⟨v, hv⟩ : ∃ v : Int, v = ((numS x.data.toList).1 : Int) := ⟨_, rfl⟩
      rw [← hv] at hNx
      generalize (numS x.data.toList).1 = N at *
      generalize (numS x.data.toList).2 = B at *
      have v0 : 0 ≤ v := by omega
      have v1 : v < 18446744073709551616 := by omega
      have HD := Lib.hid hdec
      have HV := Lib.hid hv
      have HA := Lib.hid ha
      clear hdec hx hdrop hv ha
      have hS2 : ∀ w1, Below wr.heap.size wr w1 → Hid (Strs w1 w.heap.size ps) := fun w1 h => Lib.hid (hSr.out.below h)
      have hB2 : ∀ w1, Below wr.heap.size wr w1 → Below w.heap.size w w1 := fun w1 h => belowT hbr h
      rcases (show k = 0 ∨ k = 1 ∨ k = 2 by omega) with rfl | rfl | rfl
      · cases B
        · obtain rfl : R = none := by rw [HD.out]; simp
          clear HD
          go_wp2_with (go_at_call 18; refine (hNx _ (by assumption)).mono ?_; rintro e w1 ⟨rfl, hb1⟩)
          go_ret2
          exact ⟨rfl, hB2 _ hb1⟩
        · go_wp2_with (go_at_call 18; refine (hNx _ (by assumption)).mono ?_; rintro e w1 ⟨rfl, hb1⟩)
          · have hz : v ≤ 255 := by assumption
            have hn : ¬ 255 < N := by have := HV.out; omega
            obtain ⟨e1, e2⟩ := v4_next (m := 16777216) HA.out HV.out hacc (by omega) rfl
            exact ⟨⟨1, acc ||| N * 16777216, _, rfl, rfl, by omega, Lib.hid ⟨e1, e2, by rw [HD.out]; simp [hn]⟩, hB2 _ hb1, hS2 _ hb1⟩, by simp [intOf]⟩
          · have hz : 255 < v := by assumption
            have hn : 255 < N := by have := HV.out; omega
            obtain rfl : R = none := by rw [HD.out]; simp [hn]
            go_ret2
            exact ⟨rfl, hB2 _ hb1⟩
      · cases B
        · obtain rfl : R = none := by rw [HD.out]; simp
          clear HD
          go_wp2_with (go_at_call 18; refine (hNx _ (by assumption)).mono ?_; rintro e w1 ⟨rfl, hb1⟩)
          go_ret2
          exact ⟨rfl, hB2 _ hb1⟩
        · go_wp2_with (go_at_call 18; refine (hNx _ (by assumption)).mono ?_; rintro e w1 ⟨rfl, hb1⟩)
          · have hz : v ≤ 255 := by assumption
            have hn : ¬ 255 < N := by have := HV.out; omega
            obtain ⟨e1, e2⟩ := v4_next (m := 65536) HA.out HV.out hacc (by omega) rfl
            exact ⟨⟨2, acc ||| N * 65536, _, rfl, rfl, by omega, Lib.hid ⟨e1, e2, by rw [HD.out]; simp [hn]⟩, hB2 _ hb1, hS2 _ hb1⟩, by simp [intOf]⟩
          · have hz : 255 < v := by assumption
            have hn : 255 < N := by have := HV.out; omega
            obtain rfl : R = none := by rw [HD.out]; simp [hn]
            go_ret2
            exact ⟨rfl, hB2 _ hb1⟩
      · cases B
        · obtain rfl : R = none := by rw [HD.out]; simp
          clear HD
          go_wp2_with (go_at_call 18; refine (hNx _ (by assumption)).mono ?_; rintro e w1 ⟨rfl, hb1⟩)
          go_ret2
          exact ⟨rfl, hB2 _ hb1⟩
        · go_wp2_with (go_at_call 18; refine (hNx _ (by assumption)).mono ?_; rintro e w1 ⟨rfl, hb1⟩)
          · have hz : (v / 65536 != 0) = true := by assumption
            have hn : ¬ N / 2 ^ (8 * (5 - 3)) = 0 := by
              intro h; rw [bne_iff_ne] at hz; apply hz; have := HV.out; simp at h; omega
            obtain rfl : R = none := by rw [HD.out]; simp only [if_true]; rw [if_neg hn]
            go_ret2
            exact ⟨rfl, hB2 _ hb1⟩
          · have hz : (v / 65536 != 0) = false := by assumption
            have hn : N / 2 ^ (8 * (5 - 3)) = 0 := by
              rw [bne_eq_false_iff_eq] at hz; have := HV.out; simp; omega
            obtain ⟨e1, e2⟩ := v4_last HA.out HV.out hacc hle rfl
            exact ⟨⟨3, acc ||| N, _, rfl, rfl, by omega, Lib.hid ⟨e1, e2, by rw [HD.out]; simp only [if_true]; rw [if_pos hn]⟩, hB2 _ hb1, hS2 _ hb1⟩, by simp [intOf]⟩
    · have hkn : k = 3 := by omega
      subst hkn
      have : R = some acc := by rw [hdec, List.drop_eq_nil_of_le (by rw [HL.out]; exact Nat.le_refl _)]; rfl
      subst this
      subst ha
      clear hdec
      go_wp2_with fail
      go_ret2
      exact ⟨by rfl, hbr⟩

set_option maxHeartbeats 4000000 in
set_option maxRecDepth 100000 in
theorem v4_4 (s : ByteArray) (hs : s.size < 4294967281) (h4 : (partsB s).length = 4) (w : World) (ok : Ok w) :
    Calls Tryd.prog 9 #[.string s] w (V4Post (v4go 4 0 0 (partsB s)) w) := by
  have hP := parts_c s w ok hs
  have hN : ∀ x ∈ partsB s, ∀ w1, Below w.heap.size w w1 → Calls Tryd.prog 18 #[.string x] w1 fun e w' => e = .returned (.tuple #[.int .u64 (numS x.data.toList).1, .bool (numS x.data.toList).2]) ∧ Below w1.heap.size w1 w' :=
    fun x hx w1 hb => (number_c x (by have := partsB_sub s x hx; omega) w1 (ok.below hb)).mono fun e w' ⟨a, b⟩ => ⟨a, b⟩
  generalize partsB s = ps at *
  obtain ⟨R, hR⟩ : ∃ R, R = v4go 4 0 0 ps := ⟨_, rfl⟩
  rw [← hR]
  have HR := Lib.hid hR
  have HL := Lib.hid h4
  rw [h4] at hP
  clear ok hR h4
  go_enter Tryd.func9, Tryd.ntmps9
  go_wp2_with fail
  refine hP.mono ?_
  rintro e w1 ⟨⟨c, rfl⟩, hS, hb⟩
  clear hP
  have HN := Lib.hid hN
  have HS := Lib.hid hS
  clear hN hS
  go_wp2_with fail
  go_loopw [5, 18] (fun v5 v18 wr => ∃ (k acc : Nat) (a : Int), v5 = .int .u64 a ∧ v18 = .int .i64 k ∧ k ≤ 4 ∧ Hid (a = (acc : Int) ∧ acc < 18446744073709551616 ∧ R = v4go 4 k acc (ps.drop k)) ∧ Below w.heap.size w wr ∧ Hid (Strs wr w.heap.size ps)) (fun _ v18 _ => 4 - (intOf v18).toNat)
  case atStart => exact ⟨0, 0, 0, rfl, rfl, by omega, Lib.hid ⟨rfl, by omega, HR.out⟩, hb, HS⟩
  case round =>
    obtain ⟨k, acc, a, rfl, rfl, hk, hh, hbr, hSr⟩ := hrel
    obtain ⟨ha, hacc, hdec⟩ := hh.out
    have a0 : 0 ≤ a := by omega
    have a1 : a < 18446744073709551616 := by omega
    clear hh
    by_cases hlt : k < 4
    · obtain ⟨x, hx⟩ : ∃ x, ps[k]? = some x := ⟨_, List.getElem?_eq_getElem (by rw [HL.out]; exact hlt)⟩
      have hdrop : ps.drop k = x :: ps.drop (k + 1) := Lib.drop_at hx
      have hcell := hSr.out k x hx
      have hNx := HN.out x (List.mem_of_getElem? hx)
      have hle := numS_le x.data.toList
      rw [hdrop, v4go] at hdec
      obtain ⟨v, hv⟩ : ∃ v : Int, v = ((numS x.data.toList).1 : Int) := ⟨_, rfl⟩
      rw [← hv] at hNx
      generalize (numS x.data.toList).1 = N at *
      generalize (numS x.data.toList).2 = B at *
      have v0 : 0 ≤ v := by omega
      have v1 : v < 18446744073709551616 := by omega
      have HD := Lib.hid hdec
      have HV := Lib.hid hv
      have HA := Lib.hid ha
      clear hdec hx hdrop hv ha
      have hS2 : ∀ w1, Below wr.heap.size wr w1 → Hid (Strs w1 w.heap.size ps) := fun w1 h => Lib.hid (hSr.out.below h)
      have hB2 : ∀ w1, Below wr.heap.size wr w1 → Below w.heap.size w w1 := fun w1 h => belowT hbr h
      rcases (show k = 0 ∨ k = 1 ∨ k = 2 ∨ k = 3 by omega) with rfl | rfl | rfl | rfl
      · cases B
        · obtain rfl : R = none := by rw [HD.out]; simp
          clear HD
          go_wp2_with (go_at_call 18; refine (hNx _ (by assumption)).mono ?_; rintro e w1 ⟨rfl, hb1⟩)
          go_ret2
          exact ⟨rfl, hB2 _ hb1⟩
        · go_wp2_with (go_at_call 18; refine (hNx _ (by assumption)).mono ?_; rintro e w1 ⟨rfl, hb1⟩)
          · have hz : v ≤ 255 := by assumption
            have hn : ¬ 255 < N := by have := HV.out; omega
            obtain ⟨e1, e2⟩ := v4_next (m := 16777216) HA.out HV.out hacc (by omega) rfl
            exact ⟨⟨1, acc ||| N * 16777216, _, rfl, rfl, by omega, Lib.hid ⟨e1, e2, by rw [HD.out]; simp [hn]⟩, hB2 _ hb1, hS2 _ hb1⟩, by simp [intOf]⟩
          · have hz : 255 < v := by assumption
            have hn : 255 < N := by have := HV.out; omega
            obtain rfl : R = none := by rw [HD.out]; simp [hn]
            go_ret2
            exact ⟨rfl, hB2 _ hb1⟩
      · cases B
        · obtain rfl : R = none := by rw [HD.out]; simp
          clear HD
          go_wp2_with (go_at_call 18; refine (hNx _ (by assumption)).mono ?_; rintro e w1 ⟨rfl, hb1⟩)
          go_ret2
          exact ⟨rfl, hB2 _ hb1⟩
        · go_wp2_with (go_at_call 18; refine (hNx _ (by assumption)).mono ?_; rintro e w1 ⟨rfl, hb1⟩)
          · have hz : v ≤ 255 := by assumption
            have hn : ¬ 255 < N := by have := HV.out; omega
            obtain ⟨e1, e2⟩ := v4_next (m := 65536) HA.out HV.out hacc (by omega) rfl
            exact ⟨⟨2, acc ||| N * 65536, _, rfl, rfl, by omega, Lib.hid ⟨e1, e2, by rw [HD.out]; simp [hn]⟩, hB2 _ hb1, hS2 _ hb1⟩, by simp [intOf]⟩
          · have hz : 255 < v := by assumption
            have hn : 255 < N := by have := HV.out; omega
            obtain rfl : R = none := by rw [HD.out]; simp [hn]
            go_ret2
            exact ⟨rfl, hB2 _ hb1⟩
      · cases B
        · obtain rfl : R = none := by rw [HD.out]; simp
          clear HD
          go_wp2_with (go_at_call 18; refine (hNx _ (by assumption)).mono ?_; rintro e w1 ⟨rfl, hb1⟩)
          go_ret2
          exact ⟨rfl, hB2 _ hb1⟩
        · go_wp2_with (go_at_call 18; refine (hNx _ (by assumption)).mono ?_; rintro e w1 ⟨rfl, hb1⟩)
          · have hz : v ≤ 255 := by assumption
            have hn : ¬ 255 < N := by have := HV.out; omega
            obtain ⟨e1, e2⟩ := v4_next (m := 256) HA.out HV.out hacc (by omega) rfl
            exact ⟨⟨3, acc ||| N * 256, _, rfl, rfl, by omega, Lib.hid ⟨e1, e2, by rw [HD.out]; simp [hn]⟩, hB2 _ hb1, hS2 _ hb1⟩, by simp [intOf]⟩
          · have hz : 255 < v := by assumption
            have hn : 255 < N := by have := HV.out; omega
            obtain rfl : R = none := by rw [HD.out]; simp [hn]
            go_ret2
            exact ⟨rfl, hB2 _ hb1⟩
      · cases B
        · obtain rfl : R = none := by rw [HD.out]; simp
          clear HD
          go_wp2_with (go_at_call 18; refine (hNx _ (by assumption)).mono ?_; rintro e w1 ⟨rfl, hb1⟩)
          go_ret2
          exact ⟨rfl, hB2 _ hb1⟩
        · go_wp2_with (go_at_call 18; refine (hNx _ (by assumption)).mono ?_; rintro e w1 ⟨rfl, hb1⟩)
          · have hz : (v / 256 != 0) = true := by assumption
            have hn : ¬ N / 2 ^ (8 * (5 - 4)) = 0 := by
              intro h; rw [bne_iff_ne] at hz; apply hz; have := HV.out; simp at h; omega
            obtain rfl : R = none := by rw [HD.out]; simp only [if_true]; rw [if_neg hn]
            go_ret2
            exact ⟨rfl, hB2 _ hb1⟩
          · have hz : (v / 256 != 0) = false := by assumption
            have hn : N / 2 ^ (8 * (5 - 4)) = 0 := by
              rw [bne_eq_false_iff_eq] at hz; have := HV.out; simp; omega
            obtain ⟨e1, e2⟩ := v4_last HA.out HV.out hacc hle rfl
            exact ⟨⟨4, acc ||| N, _, rfl, rfl, by omega, Lib.hid ⟨e1, e2, by rw [HD.out]; simp only [if_true]; rw [if_pos hn]⟩, hB2 _ hb1, hS2 _ hb1⟩, by simp [intOf]⟩
    · have hkn : k = 4 := by omega
      subst hkn
      have : R = some acc := by rw [hdec, List.drop_eq_nil_of_le (by rw [HL.out]; exact Nat.le_refl _)]; rfl
      subst this
      subst ha
      clear hdec
      go_wp2_with fail
      go_ret2
      exact ⟨by rfl, hbr⟩

/-- V4: its answer in the world behind it. -/
theorem v4_c (s : ByteArray) (hs : s.size < 4294967281) (w : World) (ok : Ok w) : Calls Tryd.prog 9 #[.string s] w (V4Post (v4B s) w) := by
  have hp := partsB_pos s
  unfold v4B
  by_cases h : 4 < (partsB s).length
  · rw [if_pos h]
    exact (v4_long s hs h w ok).mono fun e w' ⟨a, b⟩ => ⟨a, b⟩
  · rw [if_neg h]
    rcases (show (partsB s).length = 1 ∨ (partsB s).length = 2 ∨ (partsB s).length = 3 ∨ (partsB s).length = 4 by omega) with h' | h' | h' | h' <;> rw [h']
    · exact v4_1 s hs h' w ok
    · exact v4_2 s hs h' w ok
    · exact v4_3 s hs h' w ok
    · exact v4_4 s hs h' w ok
end Go.Proofs.YthdepnahbhheoaaDoor
