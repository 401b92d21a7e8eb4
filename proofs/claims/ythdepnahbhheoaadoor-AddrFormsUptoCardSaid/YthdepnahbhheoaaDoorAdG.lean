/- addr.parts, addr.number -/
import Derived.Test.YthdepnahbhheoaaDoorAdB
import Derived.Test.YthdepnahbhheoaaDoorAdF
namespace Go.Proofs.YthdepnahbhheoaaDoor
open Go.RowKit Go.Shelf

abbrev sdot : ByteArray := ⟨#[46]⟩
def piecesB (s : ByteArray) : List ByteArray := Lib.splitB sdot 0 (Lib.countB s sdot) s
theorem piecesB_length (s : ByteArray) : (piecesB s).length = Lib.countB s sdot + 1 := Lib.splitB_all sdot (by decide) 0 _ s rfl
/-- What stands between full stops, without an empty last one behind another. -/
def partsB (s : ByteArray) : List ByteArray := if 1 < (piecesB s).length ∧ ((piecesB s).getLastD ByteArray.empty).toList.isEmpty = true then (piecesB s).dropLast else piecesB s

/-- A slice of texts in memory. -/
def Strs (w : World) (b : Nat) (l : List ByteArray) : Prop := ∀ (j : Nat) (x : ByteArray), l[j]? = some x → w.cell? ⟨b, j, none⟩ = some (.string x)
theorem Strs.below {w w' : World} {b : Nat} {l : List ByteArray} (h : Strs w b l) (hb : Below w.heap.size w w') : Strs w' b l := fun j x hj => cellB hb (h j x hj)
theorem Strs.of {w : World} {b : Nat} {l : List ByteArray} (h : ∀ j (h : j < l.length), w.cell? ⟨b, j, none⟩ = some (.string l[j])) : Strs w b l := fun j x hj => by
  obtain ⟨h', rfl⟩ := List.getElem?_eq_some_iff.1 hj
  exact h j h'

set_option maxHeartbeats 400000 in
theorem parts_c (s : ByteArray) (w : World) (ok : Ok w) (hs : s.size < 4294967281) :
    Calls Tryd.prog 17 #[.string s] w fun e w' =>
      (∃ c, e = .returned (.slice (some ⟨w.heap.size, 0, none⟩) (partsB s).length c)) ∧ Strs w' w.heap.size (partsB s) ∧ Below w.heap.size w w' := by
  obtain ⟨m, hm⟩ := ok.maxLen
  have hS := Tryd.strings_Split s sdot m w hs hm (by decide)
  change Calls _ _ _ _ (fun e w' => _ = _ ∧ w' = w.alloc (.cells ((piecesB s).map Value.string).toArray 9)) at hS
  have hl := piecesB_length s
  have hn : Lib.countB s sdot ≤ s.size := Lib.countB_le sdot (by decide) s.size s (Nat.le_refl _)
  obtain ⟨Q, hQ⟩ : ∃ Q, Q = partsB s := ⟨_, rfl⟩
  rw [← hQ]
  unfold partsB at hQ
  generalize Lib.countB s sdot = n at *
  generalize piecesB s = ps at *
  have hcells : ∀ j (h : j < ps.length), (w.alloc (.cells (ps.map Value.string).toArray 9)).cell? ⟨w.heap.size, j, none⟩ = some (.string ps[j]) := fun j h => by
    rw [cellN w _ _ j (by simpa using h)]; simp
  have hlast : ps.getLastD ByteArray.empty = ps[n] := by
    rw [List.getLastD_eq_getLast?, List.getLast?_eq_getElem?]; simp [hl]
  have hcell := hcells n (by omega)
  rw [hlast] at hQ
  have hB : Below w.heap.size w (w.alloc (.cells (ps.map Value.string).toArray 9)) := (Below.refl _ _).alloc (Nat.le_refl _) _
  have HL := Lib.hid hl
  have HC := Lib.hid hcells
  generalize hW : w.alloc (.cells (ps.map Value.string).toArray 9) = W at *
  generalize ps[n] = x at *
  have HQ := Lib.hid hQ
  clear hl hcells hlast hW ok hm hQ
  go_enter Tryd.func17, Tryd.ntmps17
  go_wp2_with (go_at_call 29; refine hS.mono ?_; rintro e w' ⟨rfl, rfl⟩)
  all_goals go_ret
  · have he : x.toList.isEmpty = true := by assumption
    have : Q = ps.dropLast := by rw [HQ.out, if_pos ⟨by have := HL.out; omega, he⟩]
    subst this
    have h2 := HL.out
    refine ⟨⟨n + 1, ret_val ?_⟩, Strs.of fun j hj => ?_, hB⟩
    · simp [h2]
    · rw [HC.out j (by simp at hj; omega)]; simp
  · have he : x.toList.isEmpty = false := by assumption
    have : Q = ps := by rw [HQ.out, if_neg (fun h => by rw [he] at h; exact absurd h.2 (by decide))]
    subst this
    have h2 := HL.out
    exact ⟨⟨n + 1, ret_val (by simp [h2])⟩, Strs.of HC.out, hB⟩
  · have : Q = ps := by rw [HQ.out, if_neg (fun h => by have := HL.out; omega)]
    subst this
    have h2 := HL.out
    exact ⟨⟨n + 1, ret_val (by simp [h2])⟩, Strs.of HC.out, hB⟩
end Go.Proofs.YthdepnahbhheoaaDoor
