/- strconv.ParseUint, the public one: a value and nil, or an error -/
import Derived.Test.YthdepnahbhheoaaDoorAdC
import Derived.Test.YthdepnahbhheoaaDoorAdD
import Derived.Test.YthdepnahbhheoaaDoorAdE
namespace Go.Proofs.YthdepnahbhheoaaDoor
open Go.RowKit Go.Shelf

def PuPost : Lib.NumEnd Nat → Ending → Prop
  | .ok v, e => e = .returned (.tuple #[.int .u64 v, .nilIface])
  | _, e => ∃ n N, e = .returned (.tuple #[.int .u64 n, .iface 92 (.pointer (some ⟨N, 0, none⟩))])

set_option maxHeartbeats 400000 in
theorem puOk_c (base bits : Int) (s : ByteArray) (v : Int) (w : World)
    (hC : Calls Tryd.prog 42 #[.string s, .int .i64 base, .int .i64 bits] w fun e w' => e = .returned (.tuple #[.int .u64 v, .nilIface]) ∧ Below w.heap.size w w') :
    Calls Tryd.prog 32 #[.string s, .int .i64 base, .int .i64 bits] w fun e w' => e = .returned (.tuple #[.int .u64 v, .nilIface]) ∧ Below w.heap.size w w' := by
  go_enter Tryd.func32, Tryd.ntmps32
  go_wp2_with (go_at_call 42; refine hC.mono ?_; rintro e w' ⟨rfl, hb⟩)
  go_ret2
  exact ⟨rfl, hb⟩

set_option maxHeartbeats 400000 in
theorem puErr_c (base bits : Int) (s : ByteArray) (hs : s.size ≤ 281474976710656) (v : Int) (c : Int) (hc : c = 1 ∨ c = 2) (w : World) (ok : Ok w)
    (hC : Calls Tryd.prog 42 #[.string s, .int .i64 base, .int .i64 bits] w fun e w' => e = .returned (.tuple #[.int .u64 v, .iface 90 (.int .i64 c)]) ∧ Below w.heap.size w w') :
    Calls Tryd.prog 32 #[.string s, .int .i64 base, .int .i64 bits] w fun e w' =>
      (∃ N, e = .returned (.tuple #[.int .u64 v, .iface 92 (.pointer (some ⟨N, 0, none⟩))])) ∧ Below w.heap.size w w' := by
  have hT : ∀ (fn : ByteArray) (w1 : World), Ok w1 → Calls Tryd.prog 43 #[.string fn, .string s, .int .i64 base, .int .i64 bits, .iface 90 (.int .i64 c)] w1
      fun e w' => ∃ N, e = .returned (.iface 92 (.pointer (some ⟨N, 0, none⟩))) ∧ Below w1.heap.size w1 w' := by
    intro fn w1 ok1
    rcases hc with rfl | rfl
    · obtain ⟨ev, h1, h2⟩ := ok1.errR
      exact (Tryd.strconv_toError_range fn s base bits ev w1 hs h1 h2).mono fun e w' ⟨N, a, _, _, b⟩ => ⟨N, a, b⟩
    · obtain ⟨ev, h1, h2⟩ := ok1.errS
      exact (Tryd.strconv_toError_syntax fn s base bits ev w1 hs h1 h2).mono fun e w' ⟨N, a, _, _, b⟩ => ⟨N, a, b⟩
  have hO : ∀ w1, Below w.heap.size w w1 → Ok w1 := fun w1 hb => ok.below hb
  clear ok
  go_enter Tryd.func32, Tryd.ntmps32
  go_wp2_with (first | (go_at_call 42; refine hC.mono ?_; rintro e w1 ⟨rfl, hb⟩) | (go_at_call 43; refine (hT _ _ (hO _ (by assumption))).mono ?_; rintro e w2 ⟨N, rfl, hb2⟩))
  go_ret2
  exact ⟨⟨N, rfl⟩, belowT hb hb2⟩

theorem pu_c (base bits M : Int) (s : ByteArray) (hs : s.size ≤ 281474976710656) (r : Lib.NumEnd Nat) (w : World) (ok : Ok w)
    (hC : Calls Tryd.prog 42 #[.string s, .int .i64 base, .int .i64 bits] w fun e w' => e = .returned (Lib.uintTupleM 90 M r) ∧ Below w.heap.size w w') :
    Calls Tryd.prog 32 #[.string s, .int .i64 base, .int .i64 bits] w fun e w' => PuPost r e ∧ Below w.heap.size w w' := by
  cases r with
  | ok v => exact (puOk_c base bits s v w hC).mono fun e w' ⟨a, b⟩ => ⟨a, b⟩
  | range => exact (puErr_c base bits s hs M 1 (.inl rfl) w ok hC).mono fun e w' ⟨⟨N, a⟩, b⟩ => ⟨⟨M, N, a⟩, b⟩

  | _ => exact (puErr_c base bits s hs 0 2 (.inr rfl) w ok hC).mono fun e w' ⟨⟨N, a⟩, b⟩ => ⟨⟨0, N, a⟩, b⟩
/-- strconv.ParseUint's reading. -/
def parseUS (base M : Nat) (l : List UInt8) : Lib.NumEnd Nat := if l = [] then Lib.NumEnd.syntax else parseU base M 0 l
theorem size0 {s : ByteArray} (h : s.size = 0) : s = ByteArray.empty := by
  cases s with | mk d => simp [ByteArray.size] at h; subst h; rfl
theorem ne_nil {s : ByteArray} (h : s.size ≠ 0) : s.data.toList ≠ [] := fun e => h (by rw [Lib.size_eq, e]; rfl)
theorem pu_16_16 (s : ByteArray) (hs : s.size ≤ 4294967296) (w : World) (ok : Ok w) :
    Calls Tryd.prog 32 #[.string s, .int .i64 16, .int .i64 16] w fun e w' => PuPost (parseUS 16 65535 s.data.toList) e ∧ Below w.heap.size w w' := by
  refine pu_c 16 16 65535 s (by omega) _ w ok ?_
  by_cases h : s.size = 0
  · obtain rfl := size0 h
    exact (Tryd.internal_strconv_ParseUint_empty _ _ w).mono fun e w' ⟨a, b⟩ => ⟨a, b ▸ Below.refl _ _⟩
  · rw [parseUS, if_neg (ne_nil h)]
    exact (parseUint_16_16 s h hs w).mono fun e w' ⟨a, b⟩ => ⟨a, b ▸ Lib.bytesWorld_below _ _ _⟩
theorem pu_16_64 (s : ByteArray) (hs : s.size ≤ 4294967296) (w : World) (ok : Ok w) :
    Calls Tryd.prog 32 #[.string s, .int .i64 16, .int .i64 64] w fun e w' => PuPost (parseUS 16 18446744073709551615 s.data.toList) e ∧ Below w.heap.size w w' := by
  refine pu_c 16 64 18446744073709551615 s (by omega) _ w ok ?_
  by_cases h : s.size = 0
  · obtain rfl := size0 h
    exact (Tryd.internal_strconv_ParseUint_empty _ _ w).mono fun e w' ⟨a, b⟩ => ⟨a, b ▸ Below.refl _ _⟩
  · rw [parseUS, if_neg (ne_nil h)]
    exact (parseUint_16_64 s h hs w).mono fun e w' ⟨a, b⟩ => ⟨a, b ▸ Lib.bytesWorld_below _ _ _⟩
theorem pu_8_64 (s : ByteArray) (hs : s.size ≤ 4294967296) (w : World) (ok : Ok w) :
    Calls Tryd.prog 32 #[.string s, .int .i64 8, .int .i64 64] w fun e w' => PuPost (parseUS 8 18446744073709551615 s.data.toList) e ∧ Below w.heap.size w w' := by
  refine pu_c 8 64 18446744073709551615 s (by omega) _ w ok ?_
  by_cases h : s.size = 0
  · obtain rfl := size0 h
    exact (Tryd.internal_strconv_ParseUint_empty _ _ w).mono fun e w' ⟨a, b⟩ => ⟨a, b ▸ Below.refl _ _⟩
  · rw [parseUS, if_neg (ne_nil h)]
    exact (parseUint_8_64 s h hs w).mono fun e w' ⟨a, b⟩ => ⟨a, b ▸ Lib.bytesWorld_below _ _ _⟩
theorem parseU_10 (M : Nat) (hM : M ≤ 18446744073709551615) : ∀ (l : List UInt8) (acc : Nat), acc ≤ M → Lib.parseUintM M acc l = parseU 10 M acc l
  | [], _, _ => rfl
  | c :: r, acc, ha => by
    rw [Lib.parseUintM, parseU]
    by_cases hd : 48 ≤ c.toNat ∧ c.toNat ≤ 57
    · have hv : digV c = c.toNat - 48 := by unfold digV; rw [if_pos hd]
      have h10 : ¬ 10 ≤ c.toNat - 48 := by omega
      rw [if_pos hd, hv, if_neg h10]
      by_cases hc : 1844674407370955162 ≤ acc
      · have : M < acc * 10 + (c.toNat - 48) := by omega
        rw [if_pos hc, if_pos this]
      · rw [if_neg hc]
        by_cases ho : M < acc * 10 + (c.toNat - 48)
        · rw [if_pos ho, if_pos ho]
        · rw [if_neg ho, if_neg ho]; exact parseU_10 M hM r _ (by omega)
    · rw [if_neg hd, if_pos]
      unfold digV; rw [if_neg hd]; split <;> omega
theorem pu_10_64 (s : ByteArray) (hs : s.size ≤ 4294967296) (w : World) (ok : Ok w) :
    Calls Tryd.prog 32 #[.string s, .int .i64 10, .int .i64 64] w fun e w' => PuPost (parseUS 10 18446744073709551615 s.data.toList) e ∧ Below w.heap.size w w' := by
  refine pu_c 10 64 18446744073709551615 s (by omega) _ w ok ?_
  refine (Tryd.internal_strconv_ParseUint_10_at64 s (by omega) w).mono fun e w' ⟨a, b⟩ => ⟨?_, ?_⟩
  · rw [a, parseUS, Lib.parseUintB, parseU_10 _ (by decide) _ _ (by omega)]
  · rcases b with rfl | rfl
    · exact Below.refl _ _
    · exact Lib.bytesWorld_below _ _ _
theorem pu_10_16 (s : ByteArray) (hs : s.size ≤ 4294967296) (w : World) (ok : Ok w) :
    Calls Tryd.prog 32 #[.string s, .int .i64 10, .int .i64 16] w fun e w' => PuPost (parseUS 10 65535 s.data.toList) e ∧ Below w.heap.size w w' := by
  refine pu_c 10 16 65535 s (by omega) _ w ok ?_
  refine (Tryd.internal_strconv_ParseUint_10_at16 s (by omega) w).mono fun e w' ⟨a, b⟩ => ⟨?_, ?_⟩
  · rw [a, parseUS, Lib.parseUintB, parseU_10 _ (by decide) _ _ (by omega)]
  · rcases b with rfl | rfl
    · exact Below.refl _ _
    · exact Lib.bytesWorld_below _ _ _
end Go.Proofs.YthdepnahbhheoaaDoor
