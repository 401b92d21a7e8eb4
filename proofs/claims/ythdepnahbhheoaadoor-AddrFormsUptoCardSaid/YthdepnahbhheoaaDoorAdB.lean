/- slices.ContainsFunc over predicates, addr.all -/
import Derived.Test.YthdepnahbhheoaaDoorAdA
namespace Go.Proofs.YthdepnahbhheoaaDoor
open Go.RowKit Go.Shelf

/-- Where the first predicate is that holds; -1. -/
def kindIdx (b : UInt8) (ks : List Kind) : Int := match ks.findIdx? (fun k => k.p b) with | some k => (k : Int) | none => -1
def kindAny (b : UInt8) (ks : List Kind) : Bool := ks.any fun k => k.p b
theorem kindIdx_at (b : UInt8) (ks : List Kind) (k : Nat) (hk : k < ks.length) (h : ks[k].p b = true) (hno : ∀ j (hj : j < k), ks[j].p b = false) : kindIdx b ks = k := by
  have : ks.findIdx? (fun k => k.p b) = some k := by
    rw [List.findIdx?_eq_some_iff_getElem]
    exact ⟨hk, h, fun j hj => by simp [hno j hj]⟩
  simp [kindIdx, this]
theorem kindIdx_none (b : UInt8) (ks : List Kind) (hno : ∀ j (hj : j < ks.length), ks[j].p b = false) : kindIdx b ks = -1 := by
  have : ks.findIdx? (fun k => k.p b) = none := by
    rw [List.findIdx?_eq_none_iff]
    intro x hx
    obtain ⟨j, hj, rfl⟩ := List.getElem_of_mem hx
    exact hno j hj
  simp [kindIdx, this]
theorem kindIdx_any (b : UInt8) (ks : List Kind) : decide (0 ≤ kindIdx b ks) = kindAny b ks := by
  unfold kindIdx kindAny
  cases h : ks.findIdx? (fun k => k.p b) with
  | some k =>
    rw [List.findIdx?_eq_some_iff_getElem] at h
    obtain ⟨hk, h1, _⟩ := h
    have : ks.any (fun k => k.p b) = true := List.any_eq_true.2 ⟨_, List.getElem_mem hk, h1⟩
    rw [this]; simp
  | none =>
    rw [List.findIdx?_eq_none_iff] at h
    have : ks.any (fun k => k.p b) = false := by
      rw [List.any_eq_false]; intro x hx; simp [h x hx]
    rw [this]; simp

set_option maxHeartbeats 400000 in
theorem indexKinds_c (ks : List Kind) (hks : ∀ k ∈ ks, k.ok) (s : ByteArray) (i : Nat) (hi : i < s.size) (a c : Addr) (B cap : Nat) (w : World) (hs : s.size ≤ 4294967296) (hn : ks.length ≤ 100)
    (ha : w.cell? a = some (.string s)) (hc : w.cell? c = some (.int .i64 i)) (hcell : ∀ j (hj : j < ks.length), w.cell? ⟨B, j, none⟩ = some (ks[j].val)) :
    Calls Tryd.prog 46 #[.slice (some ⟨B, 0, none⟩) ks.length cap, .func (.func 36) #[] #[.pointer (some a), .pointer (some c)]] w
      fun e w' => e = .returned (.int .i64 (kindIdx s[i] ks)) ∧ w' = w := by
  go_enter Tryd.func46, Tryd.ntmps46
  go_wp2_with fail
  go_loop [8] (fun i8 => ∃ k : Nat, k ≤ ks.length ∧ i8 = .int .i64 k ∧ (∀ j (hj : j < k) (hj' : j < ks.length), ks[j].p s[i] = false)) (fun i8 => ks.length - (intOf i8).toNat)
  case atStart => exact ⟨0, Nat.zero_le _, rfl, fun j hj => by omega⟩
  case round =>
    obtain ⟨k, hk, rfl, hno⟩ := hrel
    have HN := Lib.hid hno
    clear hno
    by_cases hlt : k < ks.length
    · have hck := hcell k hlt
      have hkok := hks ks[k] (List.getElem_mem hlt)
      generalize hK : ks[k] = K at *
      have HK := Lib.hid hK
      have H1 := all1_c K hkok s i hi a c w hs ha hc
      clear hkok hK hks hcell
      go_wp2_with (go_at_call 36; refine H1.mono ?_; rintro e w' ⟨rfl, rfl⟩)
      · go_ret
        have hp : K.p s[i] = true := by assumption
        exact ⟨ret_int (kindIdx_at _ _ k hlt (by rw [HK.out]; exact hp) (fun j hj => HN.out j hj (by omega))).symm, rfl⟩
      · go_round
        have hp : K.p s[i] = false := by assumption
        case rel =>
          refine ⟨k + 1, by omega, by go_num, fun j hj hj' => ?_⟩
          rcases Nat.lt_succ_iff_lt_or_eq.1 hj with h | h
          · exact HN.out j h hj'
          · subst h; rw [HK.out]; exact hp
        case measure => simp [intOf]; omega
    · clear hks hcell
      go_wp2_with fail
      go_ret
      exact ⟨ret_int (kindIdx_none _ _ (fun j hj => HN.out j (by omega) hj)).symm, rfl⟩

set_option maxHeartbeats 400000 in
theorem containsKinds_c (ks : List Kind) (hks : ∀ k ∈ ks, k.ok) (s : ByteArray) (i : Nat) (hi : i < s.size) (a c : Addr) (B cap : Nat) (w : World) (hs : s.size ≤ 4294967296) (hn : ks.length ≤ 100)
    (ha : w.cell? a = some (.string s)) (hc : w.cell? c = some (.int .i64 i)) (hcell : ∀ j (hj : j < ks.length), w.cell? ⟨B, j, none⟩ = some (ks[j].val)) :
    Calls Tryd.prog 35 #[.slice (some ⟨B, 0, none⟩) ks.length cap, .func (.func 36) #[] #[.pointer (some a), .pointer (some c)]] w
      fun e w' => e = .returned (.bool (kindAny s[i] ks)) ∧ w' = w := by
  have hC := indexKinds_c ks hks s i hi a c B cap w hs hn ha hc hcell
  clear hcell hks ha hc
  rw [← kindIdx_any]
  generalize kindIdx s[i] ks = r at *
  go_enter Tryd.func35, Tryd.ntmps35
  go_wp2_with (go_at_call 46; refine hC.mono ?_; rintro e w' ⟨rfl, rfl⟩)
  go_ret
  exact ⟨rfl, rfl⟩

/-- All bytes of a text are of one of the kinds. -/
def allB (ks : List Kind) (s : ByteArray) : Bool := s.data.toList.all fun b => kindAny b ks

set_option maxHeartbeats 400000 in
theorem all_c (ks : List Kind) (hks : ∀ k ∈ ks, k.ok) (s : ByteArray) (B cap : Nat) (w : World) (hs : s.size ≤ 4294967296) (hn : ks.length ≤ 100)
    (hcell : ∀ j (hj : j < ks.length), w.cell? ⟨B, j, none⟩ = some (ks[j].val)) :
    Calls Tryd.prog 21 #[.string s, .slice (some ⟨B, 0, none⟩) ks.length cap] w
      fun e w' => e = .returned (.bool (allB ks s)) ∧ Below w.heap.size w w' := by
  go_enter Tryd.func21, Tryd.ntmps21
  go_wp2_with fail
  go_loopw [8] (fun i8 wr => ∃ k : Nat, k ≤ s.size ∧ i8 = .int .i64 k ∧ (∀ j (hj : j < k) (hj' : j < s.size), kindAny s[j] ks = true) ∧ wr.cell? ⟨w.heap.size, 0, none⟩ = some (.string s) ∧ Below w.heap.size w wr ∧ w.heap.size + 1 ≤ wr.heap.size) (fun i8 _ => s.size - (intOf i8).toNat)
  case atStart => exact ⟨0, Nat.zero_le _, rfl, fun j hj => by omega, by simp, (Below.refl _ _).alloc (Nat.le_refl _) _, by simp⟩
  case round =>
    obtain ⟨k, hk, rfl, hno, hcs, hb, hz⟩ := hrel
    have HN := Lib.hid hno
    have HB := Lib.hid hb
    clear hno
    by_cases hlt : k < s.size
    · have hC := containsKinds_c ks hks s k hlt ⟨w.heap.size, 0, none⟩ ⟨wr.heap.size, 0, none⟩ B cap (wr.alloc (.cells #[.int .i64 (k : Int)] 3)) hs hn
        (cellA _ hcs) (by simp) (fun j hj => cellA _ (cellB hb (hcell j hj)))
      clear hks hcell hb
      go_wp2_with (go_at_call 35; refine hC.mono ?_; rintro e w' ⟨rfl, rfl⟩)
      · have hp : (!kindAny s[k] ks) = true := by assumption
        go_ret
        refine ⟨ret_bool ?_, HB.out.alloc (by omega) _⟩
        symm; rw [allB, List.all_eq_false]
        exact ⟨s[k], List.getElem_mem (by simpa using hlt), by simpa using hp⟩
      · have hp : (!kindAny s[k] ks) = false := by assumption
        go_roundw
        case rel =>
          refine ⟨k + 1, by omega, by go_num, fun j hj hj' => ?_, cellA _ hcs, HB.out.alloc (by omega) _, by simp; omega⟩
          rcases Nat.lt_succ_iff_lt_or_eq.1 hj with h | h
          · exact HN.out j h hj'
          · subst h; simpa using hp
        case measure => simp [intOf]; omega
    · clear hks hcell hb
      go_wp2_with fail
      go_ret
      refine ⟨ret_bool ?_, HB.out⟩
      symm; rw [allB, List.all_eq_true]
      intro x hx
      obtain ⟨j, hj, rfl⟩ := List.getElem_of_mem hx
      have hj' : j < s.size := by simpa using hj
      exact HN.out j (by omega) hj'
end Go.Proofs.YthdepnahbhheoaaDoor
