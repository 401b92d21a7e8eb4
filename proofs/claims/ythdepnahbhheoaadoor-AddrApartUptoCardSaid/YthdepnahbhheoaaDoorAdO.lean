/- addr.gap -/
import Derived.Test.YthdepnahbhheoaaDoorAdN
namespace Go.Proofs.YthdepnahbhheoaaDoor
open Go.RowKit

/-- The end of the run of noughts from place n on (k places are left). -/
def runTo (l : List Nat) : Nat → Nat → Nat
  | 0, n => n
  | k + 1, n => if l.getD n 0 = 0 then runTo l k (n + 1) else n
def gapGo (l : List Nat) : Nat → Nat → Nat → Nat → Nat × Nat
  | 0, _, f, t => (f, t)
  | k + 1, i, f, t => if max (t - f) 1 < runTo l (8 - i) i - i then gapGo l k (i + 1) i (runTo l (8 - i) i) else gapGo l k (i + 1) f t
/-- The longest run of noughts: where it begins and where it ends. -/
def gapS (l : List Nat) : Nat × Nat := gapGo l 8 0 0 0
theorem runTo_ge (l : List Nat) : ∀ k n, n ≤ runTo l k n ∧ runTo l k n ≤ n + k
  | 0, n => by simp [runTo]
  | k + 1, n => by
    rw [runTo]; split
    · have := runTo_ge l k (n + 1); omega
    · omega
theorem gapGo_le (l : List Nat) : ∀ k i f t, i + k = 8 → f ≤ t → t ≤ 8 → (gapGo l k i f t).1 ≤ (gapGo l k i f t).2 ∧ (gapGo l k i f t).2 ≤ 8
  | 0, i, f, t, _, h, h1 => ⟨h, h1⟩
  | k + 1, i, f, t, hk, h, h1 => by
    have := runTo_ge l (8 - i) i
    rw [gapGo]; split
    · exact gapGo_le l k (i + 1) _ _ (by omega) (by omega) (by omega)
    · exact gapGo_le l k (i + 1) _ _ (by omega) h h1

theorem gapGo_step (l : List Nat) (k m p q : Nat) (hk : k < 8) (hm : runTo l (8 - k) k = m) :
    gapGo l (8 - k) k p q = if max (q - p) 1 < m - k then gapGo l (8 - (k + 1)) (k + 1) k m else gapGo l (8 - (k + 1)) (k + 1) p q := by
  have h : 8 - k = (8 - (k + 1)) + 1 := by omega
  conv => lhs; rw [h, gapGo]
  rw [hm]

set_option maxHeartbeats 1000000 in
theorem gap_c (l : List Nat) (hl : l.length = 8) (w : World) :
    Calls Tryd.prog 23 #[.agg (u16s l).toArray] w fun e w' => e = .returned (.tuple #[.int .i64 ((gapS l).1 : Nat), .int .i64 ((gapS l).2 : Nat)]) ∧ Below w.heap.size w w' := by
  obtain ⟨a, b, c, d, e, f, g, i, hll⟩ := list8 l hl
  have hC : ∀ m, m < 8 → (w.alloc (.cells (u16s l).toArray 29)).cell? ⟨w.heap.size, m, none⟩ = some (.int .u16 ((l.getD m 0 : Nat) : Int)) := fun m hm => by
    refine (Arr.new w (u16s l) 29 m _ ?_).1
    simp [u16s, List.getD_eq_getElem?_getD, List.getElem?_eq_getElem (show m < l.length by omega)]
  have hB : Below w.heap.size w (w.alloc (.cells (u16s l).toArray 29)) := (Below.refl _ _).alloc (Nat.le_refl _) _
  have hu : (u16s l).toArray = #[.int .u16 a, .int .u16 b, .int .u16 c, .int .u16 d, .int .u16 e, .int .u16 f, .int .u16 g, .int .u16 i] := by rw [hll]; rfl
  rw [hu] at hC hB ⊢
  obtain ⟨R, hR⟩ : ∃ R, R = gapS l := ⟨_, rfl⟩
  rw [← hR]
  have HR := Lib.hid hR
  have HC := Lib.hid hC
  clear hR hu hll hl hC
  go_enter Tryd.func23, Tryd.ntmps23
  go_wp2_with fail
  generalize w.alloc (.cells #[.int .u16 a, .int .u16 b, .int .u16 c, .int .u16 d, .int .u16 e, .int .u16 f, .int .u16 g, .int .u16 i] 29) = W at *
  go_loop [2, 3, 6] (fun v2 v3 v6 => ∃ k p q : Nat, v2 = .int .i64 p ∧ v3 = .int .i64 q ∧ v6 = .int .i64 k ∧ k ≤ 8 ∧ p ≤ q ∧ q ≤ 8 ∧ Hid (R = gapGo l (8 - k) k p q)) (fun _ _ v6 => 8 - (intOf v6).toNat)
  case atStart => exact ⟨0, 0, 0, rfl, rfl, rfl, by omega, by omega, by omega, HR⟩
  case round =>
    obtain ⟨k, p, q, rfl, rfl, rfl, hk, hpq, hq, HG⟩ := hrel
    by_cases hlt : k < 8
    · go_wp2_with fail
      go_loop [5] (fun v5 => ∃ m : Nat, v5 = .int .i64 m ∧ k ≤ m ∧ m ≤ 8 ∧ Hid (runTo l (8 - k) k = runTo l (8 - m) m)) (fun v5 => 8 - (intOf v5).toNat)
      case atStart => exact ⟨k, rfl, by omega, by omega, Lib.hid rfl⟩
      case round =>
        obtain ⟨m, rfl, hkm, hm, HM⟩ := hrel
        have fin1 : runTo l (8 - m) m = m → max ((q : Int) - p) 1 < (m : Int) - k → R = gapGo l (8 - (k + 1)) (k + 1) k m := fun h h1 => by
          rw [HG.out, gapGo_step l k m p q hlt (HM.out.trans h), if_pos (by omega)]
        have fin2 : runTo l (8 - m) m = m → (m : Int) - k ≤ max ((q : Int) - p) 1 → R = gapGo l (8 - (k + 1)) (k + 1) p q := fun h h1 => by
          rw [HG.out, gapGo_step l k m p q hlt (HM.out.trans h), if_neg (by omega)]
        have F1 := Lib.hid fin1
        have F2 := Lib.hid fin2
        clear fin1 fin2
        by_cases hmt : m < 8
        · have hc := HC.out m hmt
          have e8 : 8 - m = (8 - (m + 1)) + 1 := by omega
          have hstep : runTo l (8 - m) m = if l.getD m 0 = 0 then runTo l (8 - (m + 1)) (m + 1) else m := by conv => lhs; rw [e8, runTo]
          have HS := Lib.hid hstep
          clear hstep e8
          generalize l.getD m 0 = x at *
          cases x with
          | zero =>
            go_wp2_with fail
            exact ⟨⟨m + 1, by simp, by omega, by omega, Lib.hid (HM.out.trans (HS.out.trans (if_pos rfl)))⟩, by simp only [intOf]; omega⟩
          | succ x =>
            go_wp2_with fail
            · exact ⟨⟨k + 1, k, m, rfl, rfl, by simp, by omega, by omega, by omega, Lib.hid (F1.out (HS.out.trans (if_neg (by omega))) (by assumption))⟩, by simp only [intOf]; omega⟩
            · exact ⟨⟨k + 1, p, q, rfl, rfl, by simp, by omega, by omega, by omega, Lib.hid (F2.out (HS.out.trans (if_neg (by omega))) (by assumption))⟩, by simp only [intOf]; omega⟩
        · have h0 : runTo l (8 - m) m = m := by rw [show 8 - m = 0 by omega]; rfl
          have H0 := Lib.hid h0
          clear h0
          go_wp2_with fail
          · exact ⟨⟨k + 1, k, m, rfl, rfl, by simp, by omega, by omega, by omega, Lib.hid (F1.out H0.out (by assumption))⟩, by simp only [intOf]; omega⟩
          · exact ⟨⟨k + 1, p, q, rfl, rfl, by simp, by omega, by omega, by omega, Lib.hid (F2.out H0.out (by assumption))⟩, by simp only [intOf]; omega⟩
    · have hR8 : R = (p, q) := by rw [HG.out, show 8 - k = 0 by omega]; rfl
      have H8 := Lib.hid hR8
      clear hR8
      go_wp2_with fail
      go_ret2
      obtain rfl := H8.out
      exact ⟨rfl, hB⟩
end Go.Proofs.YthdepnahbhheoaaDoor
