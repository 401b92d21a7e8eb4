/- An array of eight pieces that comes in, opened. -/
import Derived.Test.YthdepnahbhheoaaDoorFrameB
namespace Go.Proofs.YthdepnahbhheoaaDoor
open Go.RowKit

set_option maxRecDepth 100000 in
theorem cell_u16 {W : World} {r : Reach} {base : Nat} {v : Value} (h : Cell.okWide Tryd.prog W r base 28 v) : ∃ n : Nat, v = .int .u16 n ∧ n < 65536 := by
  unfold Cell.okWide at h
  rw [Tryd.underlying28] at h
  cases v <;> simp only [Cell.ok, Tryd.underlying28] at h
  rename_i k n
  obtain ⟨rfl, h⟩ := h
  have h0 : (0 : Int) ≤ n ∧ n ≤ 65535 := h
  exact ⟨n.toNat, by rw [Int.toNat_of_nonneg h0.1], by omega⟩
set_option maxRecDepth 100000 in
theorem open_row8 {W : World} {r : Reach} {base : Nat} {v : Value} (h : Value.okWide Tryd.prog W r base 29 v) :
    ∃ a b c d e f g i : Nat, v = .agg #[.int .u16 a, .int .u16 b, .int .u16 c, .int .u16 d, .int .u16 e, .int .u16 f, .int .u16 g, .int .u16 i] ∧ ∀ n ∈ [a, b, c, d, e, f, g, i], n < 65536 := by
  have hl : Tryd.prog.arrayLen 29 = 8 := by kernel_rfl
  have he : Tryd.prog.elem 29 = 28 := by kernel_rfl
  have ht : Tryd.prog.underlying 29 = some (.array (Tryd.prog.arrayLen 29) (Tryd.prog.elem 29)) := by rw [hl, he]; kernel_rfl
  have hc : Tryd.prog.cellsOf 29 = 8 := by kernel_rfl
  simp only [Value.okWide, ht] at h
  obtain ⟨cs, rfl, hs, ts, hts, _, hall⟩ := h
  rw [hc] at hs
  have hty : (Tryd.prog.cellTypes Tryd.prog.depth 29).map (fun l => l.all (· == 28)) = some true := by kernel_rfl
  rw [hts] at hty
  have hty' : ts.all (· == 28) = true := Option.some.inj hty
  have key : ∀ i (hi : i < cs.size), ∃ n : Nat, cs[i] = .int .u16 n ∧ n < 65536 := fun i hi => by
    obtain ⟨u, hu, hok⟩ := hall i cs[i] (Array.getElem?_eq_getElem hi)
    have : u = 28 := by simpa using List.all_eq_true.1 hty' u (List.mem_of_getElem? hu)
    subst this
    exact cell_u16 hok
  obtain ⟨a, ha, ha'⟩ := key 0 (by omega)
  obtain ⟨b, hb, hb'⟩ := key 1 (by omega)
  obtain ⟨c, hc, hc'⟩ := key 2 (by omega)
  obtain ⟨d, hd, hd'⟩ := key 3 (by omega)
  obtain ⟨e, he, he'⟩ := key 4 (by omega)
  obtain ⟨f, hf, hf'⟩ := key 5 (by omega)
  obtain ⟨g, hg, hg'⟩ := key 6 (by omega)
  obtain ⟨i, hi, hi'⟩ := key 7 (by omega)
  refine ⟨a, b, c, d, e, f, g, i, congrArg Value.agg ?_, by
    intro n hn
    simp only [List.mem_cons, List.not_mem_nil, or_false] at hn
    omega⟩
  apply Array.ext
  · simp [hs]
  · intro j h1 h2
    rw [hs] at h1
    match j, h1 with
    | 0, _ => exact ha
    | 1, _ => exact hb
    | 2, _ => exact hc
    | 3, _ => exact hd
    | 4, _ => exact he
    | 5, _ => exact hf
    | 6, _ => exact hg
    | 7, _ => exact hi
end Go.Proofs.YthdepnahbhheoaaDoor
