/- addr.Ends, addr.V4 -/
import Derived.Test.YthdepnahbhheoaaDoorAdH
import Derived.Laws.Bits64b
namespace Go.Proofs.YthdepnahbhheoaaDoor
open Go.RowKit Go.Shelf

theorem partsB_pos (s : ByteArray) : 1 ≤ (partsB s).length := by
  have := piecesB_length s
  unfold partsB
  split
  · simp; omega
  · omega
theorem splitB_sub (sep : ByteArray) (save : Nat) : ∀ (k : Nat) (s p : ByteArray), p ∈ Lib.splitB sep save k s → p.size ≤ s.size
  | 0, s, p, h => by simp [Lib.splitB] at h; subst h; exact Nat.le_refl _
  | k + 1, s, p, h => by
    unfold Lib.splitB at h
    split at h
    · simp at h; subst h; exact Nat.le_refl _
    · rcases List.mem_cons.1 h with rfl | h
      · simp; omega
      · have := splitB_sub sep save k _ p h
        simp at this; omega
theorem piecesB_sub (s p : ByteArray) (h : p ∈ piecesB s) : p.size ≤ s.size := splitB_sub _ _ _ _ _ h
theorem partsB_sub (s p : ByteArray) (h : p ∈ partsB s) : p.size ≤ s.size := by
  unfold partsB at h
  split at h
  · exact piecesB_sub s p (List.dropLast_subset _ h)
  · exact piecesB_sub s p h
def lastB (s : ByteArray) : ByteArray := (partsB s).getLastD ByteArray.empty
/-- A text ends in a number. -/
def endsB (s : ByteArray) : Bool := (numS (lastB s).data.toList).2 || (!(lastB s).toList.isEmpty && (lastB s).data.toList.all isDec)

set_option maxHeartbeats 1000000 in
theorem ends_c (s : ByteArray) (hs : s.size < 4294967281) (w : World) (ok : Ok w) :
    Calls Tryd.prog 11 #[.string s] w fun e w' => e = .returned (.bool (endsB s)) ∧ Below w.heap.size w w' := by
  have hP := parts_c s w ok hs
  have hn := partsB_pos s
  have hl : (partsB s)[(partsB s).length - 1]? = some (lastB s) := by
    unfold lastB; rw [List.getLastD_eq_getLast?, List.getLast?_eq_getElem?, List.getElem?_eq_getElem (by omega)]; rfl
  have hz : (lastB s).size ≤ s.size := by
    exact partsB_sub s _ (List.mem_of_getElem? hl)
  have hz2 : (partsB s).length ≤ s.size + 1 := by
    have h1 := piecesB_length s
    have h2 : Lib.countB s sdot ≤ s.size := Lib.countB_le sdot (by decide) s.size s (Nat.le_refl _)
    unfold partsB; split <;> simp <;> omega
  have hN : ∀ w1, Below w.heap.size w w1 → Calls Tryd.prog 18 #[.string (lastB s)] w1 fun e w' => e = .returned (.tuple #[.int .u64 (numS (lastB s).data.toList).1, .bool (numS (lastB s).data.toList).2]) ∧ Below w.heap.size w w' :=
    fun w1 hb => (number_c (lastB s) (by omega) w1 (ok.below hb)).mono fun e w' ⟨a, b⟩ => ⟨a, belowT hb b⟩
  have hA : ∀ w1 : World, Below w.heap.size w w1 → Calls Tryd.prog 21 #[.string (lastB s), .slice (some ⟨w1.heap.size, 0, none⟩) 1 1] (w1.alloc (.cells #[fDec] 52)) fun e w' => e = .returned (.bool ((lastB s).data.toList.all isDec)) ∧ Below w.heap.size w w' :=
    fun w1 hb => (all1 kDec kDec_ok (lastB s) (by omega) w1 fDec rfl _).mono fun e w' ⟨a, b⟩ => ⟨by rw [a, allB_dec], belowT hb b⟩
  unfold endsB
  generalize (numS (lastB s).data.toList).1 = N at *
  generalize (numS (lastB s).data.toList).2 = B at *
  generalize (lastB s).data.toList.all isDec = D at *
  generalize lastB s = x at *
  generalize partsB s = ps at *
  have HL := Lib.hid hl
  clear hl ok
  go_enter Tryd.func11, Tryd.ntmps11
  go_wp2_with fail
  refine hP.mono ?_
  rintro e w1 ⟨⟨c, rfl⟩, hS, hb⟩
  have hcell := hS _ _ HL.out
  clear hS hP
  obtain ⟨n, hn'⟩ : ∃ n, ps.length = n + 1 := ⟨ps.length - 1, by omega⟩
  rw [hn', Nat.add_sub_cancel] at hcell
  rw [hn']
  have hnb : n ≤ s.size := by omega
  have HN := Lib.hid hn'
  clear hn' hz2
  cases B
  · cases hx : x.toList.isEmpty
    · go_wp2_with (first | (go_at_call 18; refine (hN _ (by assumption)).mono ?_; rintro e w1 ⟨rfl, hb1⟩) | (go_at_call 21; refine (hA _ (by assumption)).mono ?_; rintro e w1 ⟨rfl, hb1⟩))
      go_ret
      exact ⟨ret_bool (by first | rfl | (rw [hx]; rfl)), by assumption⟩
    · go_wp2_with (first | (go_at_call 18; refine (hN _ (by assumption)).mono ?_; rintro e w1 ⟨rfl, hb1⟩) | (go_at_call 21; refine (hA _ (by assumption)).mono ?_; rintro e w1 ⟨rfl, hb1⟩))
      go_ret
      exact ⟨ret_bool (by first | rfl | (rw [hx]; rfl)), by assumption⟩
  · go_wp2_with (first | (go_at_call 18; refine (hN _ (by assumption)).mono ?_; rintro e w1 ⟨rfl, hb1⟩) | (go_at_call 21; refine (hA _ (by assumption)).mono ?_; rintro e w1 ⟨rfl, hb1⟩))
    go_ret
    exact ⟨ret_bool (by first | rfl | (rw [hx]; rfl)), by assumption⟩

/-- The reading of an address of n parts: the ones from place i on, 'sum' having been read. -/
def v4go (n : Nat) : Nat → Nat → List ByteArray → Option Nat
  | _, sum, [] => some sum
  | i, sum, p :: r =>
    if (numS p.data.toList).2 then
      if i + 1 = n then
        if (numS p.data.toList).1 / 2 ^ (8 * (5 - n)) = 0 then v4go n (i + 1) (sum ||| (numS p.data.toList).1) r else none
      else if 255 < (numS p.data.toList).1 then none
      else v4go n (i + 1) (sum ||| ((numS p.data.toList).1 * 2 ^ (8 * (3 - i)))) r
    else none
def v4B (s : ByteArray) : Option Nat := if 4 < (partsB s).length then none else v4go (partsB s).length 0 0 (partsB s)
def V4Post (r : Option Nat) (w : World) (e : Ending) (w' : World) : Prop :=
  (match r with
    | some n => e = .returned (.tuple #[.int .u32 (n % 4294967296 : Nat), .int .i64 0])
    | none => e = .returned (.tuple #[.int .u32 0, .int .i64 17])) ∧ Below w.heap.size w w'

set_option maxHeartbeats 1000000 in
theorem v4_long (s : ByteArray) (hs : s.size < 4294967281) (h4 : 4 < (partsB s).length) (w : World) (ok : Ok w) :
    Calls Tryd.prog 9 #[.string s] w fun e w' => e = .returned (.tuple #[.int .u32 0, .int .i64 17]) ∧ Below w.heap.size w w' := by
  have hP := parts_c s w ok hs
  generalize partsB s = ps at *
  have h4' : ¬ ps.length ≤ 4 := by omega
  clear ok
  go_enter Tryd.func9, Tryd.ntmps9
  go_wp2_with fail
  refine hP.mono ?_
  rintro e w1 ⟨⟨c, rfl⟩, hS, hb⟩
  clear hP hS
  go_wp2_with fail
  go_ret2
  exact ⟨rfl, hb⟩
end Go.Proofs.YthdepnahbhheoaaDoor
