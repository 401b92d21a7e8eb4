/- addr.TextV4 -/
import Derived.Test.YthdepnahbhheoaaDoorOwn
import Derived.Laws.BitsLemmas
namespace Go.Proofs.YthdepnahbhheoaaDoor
open Go.RowKit

def byteAt (N j : Nat) : Nat := N / 2 ^ (24 - 8 * j) % 256
/-- The four numbers of an address as texts. -/
def v4texts (N k : Nat) : List ByteArray := (List.range k).map fun j => itoaB (byteAt N j)
def textV4B (N : Nat) : ByteArray := joinB (v4texts N 4) ⟨#[46]⟩
theorem v4texts_succ (N k : Nat) : v4texts N (k + 1) = v4texts N k ++ [itoaB (byteAt N k)] := by simp [v4texts, List.range_succ]
theorem v4texts_length (N k : Nat) : (v4texts N k).length = k := by simp [v4texts]
theorem wraps_u32 (n : Int) (h₀ : 0 ≤ n) (h₁ : n < 2 ^ 32) : IntKind.u32.wrap n = n := by rw [IntKind.wrap_u32]; omega
theorem and255 (x : Int) (h0 : 0 ≤ x) (h1 : x < 4294967296) : bits .and .u32 x 255 = x % 256 := bits_mask .u32 32 (by decide) wraps_u32 8 (by decide) x h0 h1
theorem itoa_short (b : Nat) (hb : b < 256) : (Lib.itoa (b : Int)).length ≤ 3 := by
  have h : ∀ n : Fin 256, (Lib.itoa (n.val : Int)).length ≤ 3 := by decide +kernel
  exact h ⟨b, hb⟩
theorem byteAt_lt (N j : Nat) : byteAt N j < 256 := Nat.mod_lt _ (by decide)
theorem v4join_short (N : Nat) : (Lib.join ((v4texts N 4).map (·.data.toList)) [46]).length ≤ 15 := by
  have h0 := itoa_short _ (byteAt_lt N 0)
  have h1 := itoa_short _ (byteAt_lt N 1)
  have h2 := itoa_short _ (byteAt_lt N 2)
  have h3 := itoa_short _ (byteAt_lt N 3)
  simp only [v4texts, List.range, List.range.loop, List.map_cons, List.map_nil, Lib.join, itoaB]
  simp [List.intercalate]
  omega
theorem byte0 (N : Nat) (h : N < 4294967296) : bits .and .u32 ((N : Int) / 16777216) 255 = ((byteAt N 0 : Nat) : Int) := by
  rw [and255 _ (by omega) (by omega)]; show _ = ((N / 16777216 % 256 : Nat) : Int); omega
theorem byte1 (N : Nat) (h : N < 4294967296) : bits .and .u32 ((N : Int) / 65536) 255 = ((byteAt N 1 : Nat) : Int) := by
  rw [and255 _ (by omega) (by omega)]; show _ = ((N / 65536 % 256 : Nat) : Int); omega
theorem byte2 (N : Nat) (h : N < 4294967296) : bits .and .u32 ((N : Int) / 256) 255 = ((byteAt N 2 : Nat) : Int) := by
  rw [and255 _ (by omega) (by omega)]; show _ = ((N / 256 % 256 : Nat) : Int); omega
theorem byte3 (N : Nat) (h : N < 4294967296) : bits .and .u32 (N : Int) 255 = ((byteAt N 3 : Nat) : Int) := by
  rw [and255 _ (by omega) (by omega)]; show _ = ((N / 1 % 256 : Nat) : Int); omega

set_option maxHeartbeats 1000000 in
theorem textV4_c (N : Nat) (hN : N < 4294967296) (w : World) (ok : Ok w) :
    Calls Tryd.prog 8 #[.int .u32 N] w fun e w' => e = .returned (.string (textV4B N)) ∧ Below w.heap.size w w' := by
  have hI : ∀ j w1, Below w.heap.size w w1 → Calls Tryd.prog 15 #[.int .i64 (byteAt N j : Int)] w1 fun e w' => e = .returned (.string (itoaB (byteAt N j))) ∧ Below w1.heap.size w1 w' :=
    fun j w1 hb => itoa_c _ (by omega) (by have := byteAt_lt N j; omega) w1 (ok.below hb)
  have hinfo : (Tryd.prog.info? 9).map (fun i => (i.zero, i.size, i.bytes)) = some (some (.string ByteArray.empty), 1, 16) := by kernel_rfl
  have HJ : Hid (∀ v w1, Below w.heap.size w w1 → w1.ownsRow w.heap.size 9 1 v 4 ((v4texts N 4).map Value.string) → Calls Tryd.prog 16 #[v, .string ⟨#[46]⟩] w1 fun e w' => e = .returned (.string (textV4B N)) ∧ Below w.heap.size w w') :=
    Lib.hid fun v w1 hb h => (join_c (v4texts N 4) ⟨#[46]⟩ v w1 (by rw [v4texts_length]; exact h) (by rw [v4texts_length]; decide) (Nat.le_trans (v4join_short N) (by decide))).mono fun e w' ⟨a, b⟩ => ⟨a, belowT hb b⟩
  generalize textV4B N = T at *
  clear ok
  have HI := Lib.hid hI
  have HINFO := Lib.hid hinfo
  clear hI hinfo
  go_enter Tryd.func8, Tryd.ntmps8
  go_wp2_with fail
  go_loopw [3, 4] (fun v3 v4 wr => ∃ k : Nat, k ≤ 4 ∧ v4 = .int .i64 (24 - 8 * (k : Int)) ∧ wr.ownsRow w.heap.size 9 1 v3 k ((v4texts N k).map Value.string) ∧ Below w.heap.size w wr) (fun _ v4 _ => (intOf v4 + 8).toNat)
  case atStart => exact ⟨0, by omega, rfl, World.ownsRow_nil _ _ _ _, Below.refl _ _⟩
  case round =>
    obtain ⟨k, hk, rfl, hown, hb⟩ := hrel
    by_cases hlt : k < 4
    · rcases (show k = 0 ∨ k = 1 ∨ k = 2 ∨ k = 3 by omega) with rfl | rfl | rfl | rfl
      · have hbits := byte0 N hN
        have hC := HI.out 0 wr hb
        have hbt := byteAt_lt N 0
        have HT := Lib.hid (v4texts_succ N 0)
        generalize byteAt N 0 = b at *
        have hz := hb.size
        go_wp2_with (first | (go_at_call 15; refine hC.mono ?_; rintro e w1 ⟨rfl, hb1⟩) | (at_builtin; refine append1 (w0 := w) w.heap.size rfl _ _ 39 9 (.string ByteArray.empty) 16 rfl Tryd.underlying39 HINFO.out rfl (by decide) _ ((v4texts N 0).map Value.string) (.string (itoaB b)) rfl rfl rfl (by rw [List.length_map, v4texts_length]; exact own_below hown hb1) (belowT' hb hz hb1) (Nat.le_trans hz hb1.size) (by rw [List.length_map, v4texts_length]; decide) ?_; intro v1 w2 hown2 hb2 hg2 hz2))
        go_roundw
        case rel =>
          refine ⟨0+1, by omega, by rfl, ?_, hb2⟩
          rw [HT.out, List.map_append]
          simpa [v4texts_length] using hown2
        case measure => simp [intOf]
      · have hbits := byte1 N hN
        have hC := HI.out 1 wr hb
        have hbt := byteAt_lt N 1
        have HT := Lib.hid (v4texts_succ N 1)
        generalize byteAt N 1 = b at *
        have hz := hb.size
        go_wp2_with (first | (go_at_call 15; refine hC.mono ?_; rintro e w1 ⟨rfl, hb1⟩) | (at_builtin; refine append1 (w0 := w) w.heap.size rfl _ _ 39 9 (.string ByteArray.empty) 16 rfl Tryd.underlying39 HINFO.out rfl (by decide) _ ((v4texts N 1).map Value.string) (.string (itoaB b)) rfl rfl rfl (by rw [List.length_map, v4texts_length]; exact own_below hown hb1) (belowT' hb hz hb1) (Nat.le_trans hz hb1.size) (by rw [List.length_map, v4texts_length]; decide) ?_; intro v1 w2 hown2 hb2 hg2 hz2))
        go_roundw
        case rel =>
          refine ⟨1+1, by omega, by rfl, ?_, hb2⟩
          rw [HT.out, List.map_append]
          simpa [v4texts_length] using hown2
        case measure => simp [intOf]
      · have hbits := byte2 N hN
        have hC := HI.out 2 wr hb
        have hbt := byteAt_lt N 2
        have HT := Lib.hid (v4texts_succ N 2)
        generalize byteAt N 2 = b at *
        have hz := hb.size
        go_wp2_with (first | (go_at_call 15; refine hC.mono ?_; rintro e w1 ⟨rfl, hb1⟩) | (at_builtin; refine append1 (w0 := w) w.heap.size rfl _ _ 39 9 (.string ByteArray.empty) 16 rfl Tryd.underlying39 HINFO.out rfl (by decide) _ ((v4texts N 2).map Value.string) (.string (itoaB b)) rfl rfl rfl (by rw [List.length_map, v4texts_length]; exact own_below hown hb1) (belowT' hb hz hb1) (Nat.le_trans hz hb1.size) (by rw [List.length_map, v4texts_length]; decide) ?_; intro v1 w2 hown2 hb2 hg2 hz2))
        go_roundw
        case rel =>
          refine ⟨2+1, by omega, by rfl, ?_, hb2⟩
          rw [HT.out, List.map_append]
          simpa [v4texts_length] using hown2
        case measure => simp [intOf]
      · have hbits := byte3 N hN
        have hC := HI.out 3 wr hb
        have hbt := byteAt_lt N 3
        have HT := Lib.hid (v4texts_succ N 3)
        generalize byteAt N 3 = b at *
        have hz := hb.size
        go_wp2_with (first | (go_at_call 15; refine hC.mono ?_; rintro e w1 ⟨rfl, hb1⟩) | (at_builtin; refine append1 (w0 := w) w.heap.size rfl _ _ 39 9 (.string ByteArray.empty) 16 rfl Tryd.underlying39 HINFO.out rfl (by decide) _ ((v4texts N 3).map Value.string) (.string (itoaB b)) rfl rfl rfl (by rw [List.length_map, v4texts_length]; exact own_below hown hb1) (belowT' hb hz hb1) (Nat.le_trans hz hb1.size) (by rw [List.length_map, v4texts_length]; decide) ?_; intro v1 w2 hown2 hb2 hg2 hz2))
        go_roundw
        case rel =>
          refine ⟨3+1, by omega, by rfl, ?_, hb2⟩
          rw [HT.out, List.map_append]
          simpa [v4texts_length] using hown2
        case measure => simp [intOf]
    · have hk4 : k = 4 := by omega
      subst hk4
      have hJ := HJ.out _ wr hb hown
      go_wp2_with (go_at_call 16; refine hJ.mono ?_; rintro e w1 ⟨rfl, hb1⟩)
      go_ret
      exact ⟨rfl, hb1⟩
end Go.Proofs.YthdepnahbhheoaaDoor
