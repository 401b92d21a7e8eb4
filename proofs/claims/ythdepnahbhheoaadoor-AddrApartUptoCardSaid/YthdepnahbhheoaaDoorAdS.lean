/- addr.TextV6 -/
import Derived.Test.YthdepnahbhheoaaDoorAdR
import Derived.ChangeKeysEq
import Derived.Laws.StructEq
import Derived.Deep.RegionWith
namespace Go.Proofs.YthdepnahbhheoaaDoor
open Go.RowKit

theorem eqItems_u16 (d : Nat) (l m : List Nat) (W : World) : ∀ (n i : Nat), i + n = l.length → i + n = m.length →
    (Op.eqItems (d + 1) 28 (Tryd.prog.cellsOf 28) (u16s l).toArray (u16s m).toArray ((List.range' i n))).run Tryd.prog W = .ok (decide (l.drop i = m.drop i)) W := by
  have hc : Tryd.prog.cellsOf 28 = 1 := by kernel_rfl
  have hp : Tryd.prog.plainKey 28 = true := by kernel_rfl
  rw [hc]
  intro n
  induction n with
  | zero =>
    intro i h1 h2
    have e1 : l.drop i = [] := List.drop_eq_nil_of_le (by omega)
    have e2 : m.drop i = [] := List.drop_eq_nil_of_le (by omega)
    simp [Op.eqItems, e1, e2]
  | succ n ih =>
    intro i h1 h2
    have g1 : (u16s l).toArray[i * 1]? = some (.int .u16 (l[i]'(by omega) : Nat)) := by simp [u16s, List.getElem?_eq_getElem (show i < l.length by omega)]
    have g2 : (u16s m).toArray[i * 1]? = some (.int .u16 (m[i]'(by omega) : Nat)) := by simp [u16s, List.getElem?_eq_getElem (show i < m.length by omega)]
    simp only [List.range'_succ, Op.eqItems, Sem.run_bind, run_part_plain W hp g1, run_part_plain W hp g2, Result.andThen_ok, run_equalIn_int W d 28 .u16 .u16 _ _ Tryd.underlying28]
    have key : (l.drop i = m.drop i) ↔ (l[i]'(by omega) = m[i]'(by omega) ∧ l.drop (i + 1) = m.drop (i + 1)) := by
      rw [List.drop_eq_getElem_cons (show i < l.length by omega), List.drop_eq_getElem_cons (show i < m.length by omega), List.cons.injEq]
    simp only [key]
    by_cases he : l[i]'(by omega) = m[i]'(by omega)
    · rw [he]
      simp only [beq_self_eq_true, Bool.not_true, Bool.false_eq_true, if_false]
      rw [ih (i + 1) (by omega) (by omega)]
      simp
    · have : (((l[i]'(by omega) : Nat) : Int) == ((m[i]'(by omega) : Nat) : Int)) = false := by rw [beq_eq_false_iff_ne]; omega
      rw [this]
      simp [he]
theorem eqIn8 (l m : List Nat) (hl : l.length = 8) (hm : m.length = 8) (W : World) :
    (Op.equalIn 10000 29 (.agg (u16s l).toArray) (.agg (u16s m).toArray)).run Tryd.prog W = .ok (decide (l = m)) W := by
  have hl' : Tryd.prog.arrayLen 29 = 8 := by kernel_rfl
  have he : Tryd.prog.elem 29 = 28 := by kernel_rfl
  have ht : Tryd.prog.underlying 29 = some (.array 8 28) := by
    have : Tryd.prog.underlying 29 = some (.array (Tryd.prog.arrayLen 29) (Tryd.prog.elem 29)) := by rw [hl', he]; kernel_rfl
    rw [this, hl', he]
  have hinfo : (Tryd.prog.info? 28).isSome = true := by kernel_rfl
  obtain ⟨i, hi⟩ := Option.isSome_iff_exists.1 hinfo
  rw [show (10000 : Nat) = 9998 + 1 + 1 from rfl, run_equalIn_array W (9998 + 1) _ _ ht hi, List.range_eq_range']
  have := eqItems_u16 9998 l m W 8 0 (by omega) (by omega)
  rw [this]; simp
theorem eq8 (l m : List Nat) (hl : l.length = 8) (hm : m.length = 8) (W : World) :
    (binOp .eql 29 (.agg (u16s l).toArray) (.agg (u16s m).toArray)).run Tryd.prog W = .ok (.bool (decide (l = m))) W := by
  rw [run_eql_struct, eqIn8 l m hl hm W]; rfl
theorem neq8 (l m : List Nat) (hl : l.length = 8) (hm : m.length = 8) (W : World) :
    (binOp .neq 29 (.agg (u16s l).toArray) (.agg (u16s m).toArray)).run Tryd.prog W = .ok (.bool (!decide (l = m))) W := by
  rw [run_neq_struct, eqIn8 l m hl hm W]; rfl
theorem slice8h (B m : Nat) (hm : m ≤ 8) (W : World) : (Instr.sliceAt 29 (.pointer (some ⟨B, 0, none⟩)) none (some (.int .i64 (m : Int))) none).run Tryd.prog W = .ok (.slice (some ⟨B, 0, none⟩) m 8) W := by
  have hl : Tryd.prog.arrayLen 29 = 8 := by kernel_rfl
  have he : Tryd.prog.elem 29 = 28 := by kernel_rfl
  have ht : Tryd.prog.underlying 29 = some (.array (Tryd.prog.arrayLen 29) (Tryd.prog.elem 29)) := by rw [hl, he]; kernel_rfl
  rw [run_sliceAt_array_h W 29 ⟨B, 0, none⟩ ht .i64 (m : Int) (by omega) (by rw [hl]; omega), hl, he]
  simp [Tryd.sizeOf28, Result.andThen, slicedAt, Addr.add]
theorem slice8l (B m : Nat) (hm : m ≤ 8) : ∃ o, (∀ W, (Instr.sliceAt 29 (.pointer (some ⟨B, 0, none⟩)) (some (.int .i64 (m : Int))) none none).run Tryd.prog W = .ok (.slice (some ⟨B, o, none⟩) (8 - m) (8 - m)) W) ∧ (m < 8 → o = m) := by
  by_cases h : m < 8
  · exact ⟨m, slice8 B m h, fun _ => rfl⟩
  · have : m = 8 := by omega
    subst this
    refine ⟨0, fun W => ?_, fun h => by omega⟩
    have hl : Tryd.prog.arrayLen 29 = 8 := by kernel_rfl
    have he : Tryd.prog.elem 29 = 28 := by kernel_rfl
    have ht : Tryd.prog.underlying 29 = some (.array (Tryd.prog.arrayLen 29) (Tryd.prog.elem 29)) := by rw [hl, he]; kernel_rfl
    rw [run_sliceAt_array_l W 29 ⟨B, 0, none⟩ ht .i64 ((8 : Nat) : Int) (by omega) (by rw [hl]; omega), hl, he]
    simp [Tryd.sizeOf28, Result.andThen, slicedAt]

def apB (a b : ByteArray) : ByteArray := ⟨(a.data.toList ++ b.data.toList).toArray⟩
def textV6B (l : List Nat) : ByteArray :=
  if l = List.replicate 8 0 then ⟨#[58, 58]⟩
  else if (gapS l).2 = 0 then hexJ l
  else ⟨((hexJ (l.take (gapS l).1)).data.toList ++ [58, 58] ++ (hexJ (l.drop (gapS l).2)).data.toList).toArray⟩

theorem cat3 (a b : ByteArray) : a ++ ⟨#[58, 58]⟩ ++ b = ⟨(a.data.toList ++ [58, 58] ++ b.data.toList).toArray⟩ := by
  apply ByteArray.ext
  apply Array.ext'
  simp [ByteArray.data_append]
theorem hexJ_short (l : List Nat) (h : l.length ≤ 8) : (hexJ l).size ≤ 40 := by
  have := hexjoin_short l h
  rw [Lib.size_eq]; simpa [hexJ, joinB] using this
theorem gapS_le (l : List Nat) : (gapS l).1 ≤ (gapS l).2 ∧ (gapS l).2 ≤ 8 := gapGo_le l 8 0 0 0 rfl (Nat.le_refl _) (by omega)
set_option maxRecDepth 100000 in
set_option maxHeartbeats 1000000 in
theorem textV6_c (l : List Nat) (hl : l.length = 8) (hlt : ∀ (j n : Nat), l[j]? = some n → n < 65536) (w : World) (ok : Ok2 w) :
    Calls Tryd.prog 12 #[.agg (u16s l).toArray] w fun e w' => e = .returned (.string (textV6B l)) ∧ Below w.heap.size w w' := by
  have hG := gap_c l hl (w.alloc (.cells (u16s l).toArray 29))
  obtain ⟨hg1, hg2⟩ := gapS_le l
  obtain ⟨T, hT⟩ : ∃ T, T = textV6B l := ⟨_, rfl⟩
  rw [← hT]
  unfold textV6B at hT
  generalize (gapS l).1 = p at *
  generalize (gapS l).2 = q at *
  have hA := Arr.new w (u16s l) 29
  have hb0 : Below w.heap.size w (w.alloc (.cells (u16s l).toArray 29)) := (Below.refl _ _).alloc (Nat.le_refl _) _
  have hx : ∀ (o n cap : Nat) w1 (t : List Nat), n ≤ 8 → Below w.heap.size w w1 → Arr w1 w.heap.size (u16s l) → t = (l.drop o).take n → t.length = n → Calls Tryd.prog 24 #[.slice (some ⟨w.heap.size, o, none⟩) n cap] w1 fun e w' => e = .returned (.string (hexJ t)) ∧ Below w1.heap.size w1 w' := by
    intro o n cap w1 t hn hb ha ht hl
    subst ht
    have := hex_c ((l.drop o).take n) (by rw [hl]; omega) (fun j n h => by
      refine hlt (o + j) n ?_
      rw [List.getElem?_take] at h
      split at h
      · simpa using h
      · cases h) w.heap.size o cap w1 (ok.below hb) (fun j n h => by
      rw [List.getElem?_take] at h
      split at h
      · rw [List.getElem?_drop] at h
        exact (ha (o + j) _ (by simp [u16s, h])).1
      · cases h)
    rw [hl] at this
    exact this
  obtain ⟨a, b, c, d, e, f, g, i, hll⟩ := list8 l hl
  have hu : (u16s l).toArray = #[.int .u16 a, .int .u16 b, .int .u16 c, .int .u16 d, .int .u16 e, .int .u16 f, .int .u16 g, .int .u16 i] := by rw [hll]; rfl
  have hE := eq8 l (List.replicate 8 0) hl (by simp)
  have hz : (u16s (List.replicate 8 0)).toArray = #[.int .u16 0, .int .u16 0, .int .u16 0, .int .u16 0, .int .u16 0, .int .u16 0, .int .u16 0, .int .u16 0] := rfl
  rw [hz, hu] at hE
  rw [hu] at hG hb0 ⊢
  rw [hu] at hA
  have HA := Lib.hid hA
  have HX := Lib.hid hx
  have HT := Lib.hid hT
  have HU := Lib.hid hu
  have HLL := Lib.hid hll
  have HL := Lib.hid hl
  have OK := Lib.hid ok
  clear hA hx hT hu hll hl ok hlt hz
  have q8 : (q : Int) ≤ 8 := by omega
  have hW : ∀ w1, Below w.heap.size w w1 → Arr w1 w.heap.size (u16s l) → w1.cell? ⟨w.heap.size, 0, none⟩ = some (.int .u16 a) ∧ w1.cell? ⟨w.heap.size, 1, none⟩ = some (.int .u16 b) ∧ w1.cell? ⟨w.heap.size, 2, none⟩ = some (.int .u16 c) ∧ w1.cell? ⟨w.heap.size, 3, none⟩ = some (.int .u16 d) ∧ w1.cell? ⟨w.heap.size, 4, none⟩ = some (.int .u16 e) ∧ w1.cell? ⟨w.heap.size, 5, none⟩ = some (.int .u16 f) ∧ w1.cell? ⟨w.heap.size, 6, none⟩ = some (.int .u16 g) ∧ w1.cell? ⟨w.heap.size, 7, none⟩ = some (.int .u16 i) := fun w1 _ h => by
    rw [HLL.out] at h
    exact ⟨(h 0 _ rfl).1, (h 1 _ rfl).1, (h 2 _ rfl).1, (h 3 _ rfl).1, (h 4 _ rfl).1, (h 5 _ rfl).1, (h 6 _ rfl).1, (h 7 _ rfl).1⟩
  have HW := Lib.hid hW
  clear hW
  by_cases h0 : l = List.replicate 8 0
  · have hd : decide (l = List.replicate 8 0) = true := by simpa using h0
    rw [hd] at hE
    obtain rfl : T = ⟨#[58, 58]⟩ := by rw [HT.out, if_pos h0]
    clear HT h0 hd
    go_enter Tryd.func12, Tryd.ntmps12
    go_wp2_with fail
    refine hG.mono ?_
    rintro e w1 ⟨rfl, hb1⟩
    have hb2 := belowT hb0 hb1
    obtain ⟨c0, c1, c2, c3, c4, c5, c6, c7⟩ := HW.out w1 hb2 (HA.out.below hb1)
    go_wp2_with fail
    go_ret
    exact ⟨rfl, hb2⟩
  · have hd : decide (l = List.replicate 8 0) = false := by simpa using h0
    rw [hd] at hE
    have hT := HT.out
    rw [if_neg h0] at hT
    clear HT h0
    by_cases hq : q = 0
    · subst hq
      go_enter Tryd.func12, Tryd.ntmps12
      go_wp2_with fail
      refine hG.mono ?_
      rintro e w1 ⟨rfl, hb1⟩
      have hb2 := belowT hb0 hb1
      obtain ⟨c0, c1, c2, c3, c4, c5, c6, c7⟩ := HW.out w1 hb2 (HA.out.below hb1)
      go_wp2_with fail
      refine (HX.out 0 8 8 w1 l (by omega) hb2 (HA.out.below hb1) (by rw [List.drop_zero, List.take_of_length_le (by rw [HL.out]; omega)]) HL.out).mono ?_
      rintro e w2 ⟨rfl, hb3⟩
      go_wp2_with fail
      go_ret
      exact ⟨by rw [hT]; rfl, belowT hb2 hb3⟩
    · have hsp := slice8h w.heap.size p (by omega)
      obtain ⟨o, hsq, ho⟩ := slice8l w.heap.size q hg2
      rw [if_neg hq] at hT
      have hq0 : ((q : Int) == 0) = false := by rw [beq_eq_false_iff_ne]; omega
      have HT := Lib.hid hT
      have HO := Lib.hid ho
      clear hT ho hq hd
      go_enter Tryd.func12, Tryd.ntmps12
      go_wp2_with fail
      refine hG.mono ?_
      rintro e w1 ⟨rfl, hb1⟩
      have hb2 := belowT hb0 hb1
      obtain ⟨c0, c1, c2, c3, c4, c5, c6, c7⟩ := HW.out w1 hb2 (HA.out.below hb1)
      have hx1 : ∀ w2, Below w1.heap.size w1 w2 → Calls Tryd.prog 24 #[.slice (some ⟨w.heap.size, 0, none⟩) p 8] w2 fun e w' => e = .returned (.string (hexJ (l.take p))) ∧ Below w1.heap.size w1 w' := fun w2 h =>
        (HX.out 0 p 8 w2 (l.take p) (by omega) (belowT hb2 h) ((HA.out.below hb1).below h) rfl (by rw [List.length_take, HL.out]; omega)).mono fun e w' ⟨a, b⟩ => ⟨a, belowT h b⟩
      have hx2 : ∀ w2, Below w1.heap.size w1 w2 → Calls Tryd.prog 24 #[.slice (some ⟨w.heap.size, o, none⟩) (8 - q) (8 - q)] w2 fun e w' => e = .returned (.string (hexJ (l.drop q))) ∧ Below w1.heap.size w1 w' := fun w2 h =>
        (HX.out o (8 - q) (8 - q) w2 (l.drop q) (by omega) (belowT hb2 h) ((HA.out.below hb1).below h) (by
          by_cases h8 : q < 8
          · rw [HO.out h8, List.take_of_length_le (by rw [List.length_drop, HL.out]; omega)]
          · rw [List.drop_eq_nil_of_le (by rw [HL.out]; omega), show 8 - q = 0 by omega, List.take_zero]) (by rw [List.length_drop, HL.out])).mono fun e w' ⟨a, b⟩ => ⟨a, belowT h b⟩
      have hs1 : (hexJ (l.take p)).size ≤ 40 := hexJ_short _ (by rw [List.length_take]; omega)
      have hs2 : (hexJ (l.drop q)).size ≤ 40 := hexJ_short _ (by rw [List.length_drop, HL.out]; omega)
      generalize hexJ (l.take p) = X1 at *
      generalize hexJ (l.drop q) = X2 at *
      have HX1 := Lib.hid hx1
      have HX2 := Lib.hid hx2
      clear hx1 hx2 HX HU HLL HW HO HA OK
      go_wp2_with fail
      go_region_with (first | (go_at_call 24; ((with_reducible refine (HX1.out _ ?_).mono ?_); (first | exact (Below.refl _ _).drew | assumption | exact Below.drew (by assumption)); rintro e w2 ⟨rfl, hb3⟩)) | (go_at_call 24; ((with_reducible refine (HX2.out _ ?_).mono ?_); (first | exact (Below.refl _ _).drew | assumption | exact Below.drew (by assumption)); rintro e w2 ⟨rfl, hb3⟩)))
      all_goals (go_wp2_with fail; go_ret; exact ⟨ret_val (by rw [HT.out]; exact congrArg Value.string (cat3 _ _)), belowT hb2 (by assumption)⟩)
end Go.Proofs.YthdepnahbhheoaaDoor
