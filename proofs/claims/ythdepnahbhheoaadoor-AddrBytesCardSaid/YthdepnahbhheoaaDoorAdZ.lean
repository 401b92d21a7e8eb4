/- AddrBytes: the plain law and the walk -/
import Derived.Test.YthdepnahbhheoaaDoorAdY
import Derived.Deep.RegionHeld3
namespace Go.Proofs.YthdepnahbhheoaaDoor
open Go.RowKit

theorem hexT_tab : ((List.range 256).all fun b => decide (numS (hexT b).data.toList = (b, true)) && decide ((46 : UInt8) ∉ (hexT b).data.toList) && decide ((hexT b).data.toList ≠ []) && (decide (numS (octT b).data.toList = (b, true)) && decide ((46 : UInt8) ∉ (octT b).data.toList) && decide ((octT b).data.toList ≠ []))) = true := by kernel_rfl
theorem hexT_at (b : Nat) (h : b < 256) : (numS (hexT b).data.toList = (b, true) ∧ (46 : UInt8) ∉ (hexT b).data.toList ∧ (hexT b).data.toList ≠ []) ∧ (numS (octT b).data.toList = (b, true) ∧ (46 : UInt8) ∉ (octT b).data.toList ∧ (octT b).data.toList ≠ []) := by
  have := List.all_eq_true.1 hexT_tab b (List.mem_range.2 h)
  simp only [Bool.and_eq_true, decide_eq_true_eq] at this
  exact ⟨⟨this.1.1.1, this.1.1.2, this.1.2⟩, this.2.1.1, this.2.1.2, this.2.2⟩
theorem v4_four (p q r t : ByteArray) (a b c d : Nat) (hp : numS p.data.toList = (a, true)) (hq : numS q.data.toList = (b, true)) (hr : numS r.data.toList = (c, true)) (ht : numS t.data.toList = (d, true))
    (ha : a < 256) (hb : b < 256) (hc : c < 256) (hd : d < 256) (p0 : (46 : UInt8) ∉ p.data.toList) (q0 : (46 : UInt8) ∉ q.data.toList) (r0 : (46 : UInt8) ∉ r.data.toList) (t0 : (46 : UInt8) ∉ t.data.toList) (tn : t.data.toList ≠ []) :
    v4B (p ++ ⟨#[46]⟩ ++ q ++ ⟨#[46]⟩ ++ r ++ ⟨#[46]⟩ ++ t) = some (a * 16777216 + b * 65536 + c * 256 + d) := by
  have e : (p ++ ⟨#[46]⟩ ++ q ++ ⟨#[46]⟩ ++ r ++ ⟨#[46]⟩ ++ t : ByteArray).data.toList = p.data.toList ++ 46 :: (q.data.toList ++ 46 :: (r.data.toList ++ 46 :: t.data.toList)) := by
    simp [ByteArray.data_append]
  have hs : sp 46 (p.data.toList ++ 46 :: (q.data.toList ++ 46 :: (r.data.toList ++ 46 :: t.data.toList))) = [p.data.toList, q.data.toList, r.data.toList, t.data.toList] := by
    rw [sp_app _ _ _ p0, sp_app _ _ _ q0, sp_app _ _ _ r0, sp_no _ _ t0]
  rw [v4B_L, e]
  unfold v4L partsL
  rw [hs, if_neg (c := 1 < _ ∧ _) (by rintro ⟨_, h⟩; exact tn (by simpa [List.getLastD_eq_getLast?] using h)), if_neg (by simp)]
  exact v4goL_4 _ _ _ _ _ _ _ _ hp hq hr ht ha hb hc hd
theorem or_u32 (x y : Int) (i : Nat) (h0 : 0 ≤ x) (h1 : x % 2 ^ i = 0) (h2 : x < 4294967296) (h3 : 0 ≤ y) (h4 : y < 2 ^ i) (h5 : y < 4294967296) : bits .or .u32 x y = x + y :=
  bits_join .u32 32 (by decide) wraps_u32 i x y h0 h1 h2 h3 h4 h5
theorem hexT_size (x : Nat) : (hexT x).size = 4 := rfl
theorem octT_size (x : Nat) : (octT x).size = 4 := rfl
set_option maxRecDepth 100000 in
set_option maxHeartbeats 4000000 in
theorem addrBytes_c (a b c d : Nat) (ha : a < 256) (hb : b < 256) (hc : c < 256) (hd : d < 256) (w : World) (ok : Ok2 w) :
    Calls Tryd.prog 5 #[.int .u8 a, .int .u8 b, .int .u8 c, .int .u8 d] w fun e w' => e = .returned (.bool true) ∧ Below w.heap.size w w' := by
  have OK := Lib.hid ok
  clear ok
  have ha' : (a : Int) < 256 := by omega
  have hb' : (b : Int) < 256 := by omega
  have hc' : (c : Int) < 256 := by omega
  have hd' : (d : Int) < 256 := by omega
  obtain ⟨⟨a1, a2, a3⟩, _⟩ := hexT_at a ha
  obtain ⟨⟨b4, b5, b6⟩, b1, b2, b3⟩ := hexT_at b hb
  obtain ⟨⟨c1, c2, c3⟩, _⟩ := hexT_at c hc
  obtain ⟨⟨d4, d5, d6⟩, d1, d2, d3⟩ := hexT_at d hd
  have x1 := v4_four _ _ _ _ a b c d a1 b1 c1 d1 ha hb hc hd a2 b2 c2 d2 d3
  have x2 := v4_four _ _ _ _ a b c d a1 b1 c1 d4 ha hb hc hd a2 b2 c2 d5 d6
  clear a1 a2 a3 b1 b2 b3 b4 b5 b6 c1 c2 c3 d1 d2 d3 d4 d5 d6
  have k1 : ∀ w1, Below w.heap.size w w1 → Calls Tryd.prog 13 #[.int .u8 (a : Int)] w1 fun e w' => e = .returned (.string (hexT a)) ∧ Below w.heap.size w w' := fun w1 hB => (hexC a ha w1).mono fun _ _ ⟨x, y⟩ => ⟨x, belowT hB y⟩
  have k2 : ∀ w1, Below w.heap.size w w1 → Calls Tryd.prog 14 #[.int .u8 (b : Int)] w1 fun e w' => e = .returned (.string (octT b)) ∧ Below w.heap.size w w' := fun w1 hB => (octC b hb w1).mono fun _ _ ⟨x, y⟩ => ⟨x, belowT hB y⟩
  have k3 : ∀ w1, Below w.heap.size w w1 → Calls Tryd.prog 13 #[.int .u8 (c : Int)] w1 fun e w' => e = .returned (.string (hexT c)) ∧ Below w.heap.size w w' := fun w1 hB => (hexC c hc w1).mono fun _ _ ⟨x, y⟩ => ⟨x, belowT hB y⟩
  have k4 : ∀ w1, Below w.heap.size w w1 → Calls Tryd.prog 14 #[.int .u8 (d : Int)] w1 fun e w' => e = .returned (.string (octT d)) ∧ Below w.heap.size w w' := fun w1 hB => (octC d hd w1).mono fun _ _ ⟨x, y⟩ => ⟨x, belowT hB y⟩
  have k5 : ∀ w1, Below w.heap.size w w1 → Calls Tryd.prog 13 #[.int .u8 (d : Int)] w1 fun e w' => e = .returned (.string (hexT d)) ∧ Below w.heap.size w w' := fun w1 hB => (hexC d hd w1).mono fun _ _ ⟨x, y⟩ => ⟨x, belowT hB y⟩
  have p1 : bits .or .u32 ((a : Int) * 16777216) ((b : Int) * 65536) = (a : Int) * 16777216 + (b : Int) * 65536 := or_u32 _ _ 24 (by omega) (by omega) (by omega) (by omega) (by omega) (by omega)
  have p2 : bits .or .u32 ((a : Int) * 16777216 + (b : Int) * 65536) ((c : Int) * 256) = (a : Int) * 16777216 + (b : Int) * 65536 + (c : Int) * 256 := or_u32 _ _ 16 (by omega) (by omega) (by omega) (by omega) (by omega) (by omega)
  have p3 : bits .or .u32 ((a : Int) * 16777216 + (b : Int) * 65536 + (c : Int) * 256) (d : Int) = (a : Int) * 16777216 + (b : Int) * 65536 + (c : Int) * 256 + (d : Int) := or_u32 _ _ 8 (by omega) (by omega) (by omega) (by omega) (by omega) (by omega)
  have x1 := fun w1 (hb : Below w.heap.size w w1) => v4_ok _ _ x1 (by simp only [ByteArray.size_append, hexT_size, octT_size]; decide) w1 (OK.out.below hb).toOk
  have x2 := fun w1 (hb : Below w.heap.size w w1) => v4_ok _ _ x2 (by simp only [ByteArray.size_append, hexT_size, octT_size]; decide) w1 (OK.out.below hb).toOk
  rw [Nat.mod_eq_of_lt (by omega)] at x1
  rw [Nat.mod_eq_of_lt (by omega)] at x2
  unfold hexT octT at *
  generalize lowD (a / 16) = u1 at *
  generalize greatD (a % 16) = u2 at *
  generalize octD (b / 64) = u3 at *
  generalize octD (b / 8 % 8) = u4 at *
  generalize octD (b % 8) = u5 at *
  generalize lowD (c / 16) = u6 at *
  generalize greatD (c % 16) = u7 at *
  generalize octD (d / 64) = u8 at *
  generalize octD (d / 8 % 8) = u9 at *
  generalize octD (d % 8) = v1 at *
  generalize lowD (d / 16) = v2 at *
  generalize greatD (d % 16) = v3 at *
  have K1 := Lib.hid k1
  have K2 := Lib.hid k2
  have K3 := Lib.hid k3
  have K4 := Lib.hid k4
  have K5 := Lib.hid k5
  have X1 := Lib.hid x1
  have x2' : ∀ w1, Below w.heap.size w w1 → Calls Tryd.prog 9 _ w1 fun e w' => _ ∧ Below w.heap.size w w' := fun w1 hB => (x2 w1 hB).mono fun _ _ ⟨x, y⟩ => ⟨x, belowT hB y⟩
  have X2 := Lib.hid x2'
  clear x2'
  clear k1 k2 k3 k4 k5 x1 x2
  go_enter Tryd.func5, Tryd.ntmps5
  go_wp2_with fail
  refine (lives_c _ OK.out).mono ?_
  rintro e w1 ⟨rfl, hb1⟩
  go_wp2_with fail
  refine (K1.out _ hb1).mono ?_
  rintro e w2 ⟨rfl, hb2⟩
  go_wp2_with fail
  refine (K2.out _ hb2).mono ?_
  rintro e w3 ⟨rfl, hb3⟩
  go_wp2_with fail
  refine (K3.out _ hb3).mono ?_
  rintro e w4 ⟨rfl, hb4⟩
  go_wp2_with fail
  refine (K4.out _ hb4).mono ?_
  rintro e w5 ⟨rfl, hb5⟩
  go_wp2_with fail
  refine (X1.out _ hb5).mono ?_
  rintro e w6 ⟨rfl, hb6⟩
  have hb6' := belowT hb5 hb6
  clear p1 p2 p3 X1
  clear hb1 hb2 hb3 hb4 hb5 hb6
  go_wp2_with fail
  go_region_held3 (fun _ => True) (trivial) (first | (go_at_call 13; ((with_reducible refine (K1.out _ ?_).mono ?_); (first | assumption | exact Below.drew (by assumption)); rintro e2 w2 ⟨rfl, hb2⟩)) | (go_at_call 14; ((with_reducible refine (K2.out _ ?_).mono ?_); (first | assumption | exact Below.drew (by assumption)); rintro e2 w2 ⟨rfl, hb2⟩)) | (go_at_call 13; ((with_reducible refine (K3.out _ ?_).mono ?_); (first | assumption | exact Below.drew (by assumption)); rintro e2 w2 ⟨rfl, hb2⟩)) | (go_at_call 14; ((with_reducible refine (K4.out _ ?_).mono ?_); (first | assumption | exact Below.drew (by assumption)); rintro e2 w2 ⟨rfl, hb2⟩)) | (go_at_call 13; ((with_reducible refine (K5.out _ ?_).mono ?_); (first | assumption | exact Below.drew (by assumption)); rintro e2 w2 ⟨rfl, hb2⟩)) | (go_at_call 9; ((with_reducible refine (X2.out _ ?_).mono ?_); (first | assumption | exact Below.drew (by assumption)); rintro e2 w2 ⟨rfl, hb3⟩)))
  all_goals (go_wp2_with fail; go_ret; exact ⟨rfl, hb3⟩)
end Go.Proofs.YthdepnahbhheoaaDoor
