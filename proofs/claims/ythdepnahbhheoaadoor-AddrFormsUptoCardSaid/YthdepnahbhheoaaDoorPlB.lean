/- AddrDot: the plain law -/
import Derived.Test.YthdepnahbhheoaaDoorAdU
import Derived.Test.YthdepnahbhheoaaDoorPlA
namespace Go.Proofs.YthdepnahbhheoaaDoor
open Go.RowKit

theorem toB_inj {a b : ByteArray} (h : a.data.toList = b.data.toList) : a = b := by
  apply ByteArray.ext
  apply Array.ext'
  exact h
theorem mapB_inj : ∀ {l m : List ByteArray}, l.map (·.data.toList) = m.map (·.data.toList) → l = m
  | [], [], _ => rfl
  | [], _ :: _, h => by simp at h
  | _ :: _, [], h => by simp at h
  | a :: l, b :: m, h => by
    simp only [List.map_cons, List.cons.injEq] at h
    rw [toB_inj h.1, mapB_inj h.2]
theorem pieces_sp (s : ByteArray) : (piecesB s).map (·.data.toList) = sp 46 s.data.toList := splitB_sp 46 s
theorem cols_sp (s : ByteArray) : (colsB s).map (·.data.toList) = sp 58 s.data.toList := splitB_sp 58 s
theorem getLastD_map (l : List ByteArray) : (l.getLastD ByteArray.empty).data.toList = (l.map (·.data.toList)).getLastD [] := by
  rw [List.getLastD_eq_getLast?, List.getLastD_eq_getLast?, List.getLast?_map]
  cases l.getLast? <;> rfl
/-- The parts, in plain words. -/
def partsL (l : List UInt8) : List (List UInt8) := if 1 < (sp 46 l).length ∧ (sp 46 l).getLastD [] = [] then (sp 46 l).dropLast else sp 46 l
theorem parts_sp (s : ByteArray) : (partsB s).map (·.data.toList) = partsL s.data.toList := by
  unfold partsB partsL
  have h1 : (sp 46 s.data.toList).length = (piecesB s).length := by rw [← pieces_sp]; simp
  have h2 : ((piecesB s).getLastD ByteArray.empty).toList.isEmpty = true ↔ (sp 46 s.data.toList).getLastD [] = [] := by
    rw [← pieces_sp, ← getLastD_map, ByteArray.toList_eq, List.isEmpty_iff]
  by_cases h : 1 < (piecesB s).length ∧ ((piecesB s).getLastD ByteArray.empty).toList.isEmpty = true
  · rw [if_pos h, if_pos ⟨by rw [h1]; exact h.1, h2.1 h.2⟩, List.map_dropLast, pieces_sp]
  · rw [if_neg h, if_neg (fun e => h ⟨by rw [← h1]; exact e.1, h2.2 e.2⟩), pieces_sp]
theorem app_data (a b : ByteArray) : (a ++ b).data.toList = a.data.toList ++ b.data.toList := by simp [ByteArray.data_append]

theorem partsL_dot (l : List UInt8) (h0 : l ≠ []) (hd : l.getLast? ≠ some 46) : partsL (l ++ [46]) = sp 46 l ∧ partsL l = sp 46 l := by
  have e : sp 46 (l ++ [46]) = sp 46 l ++ [[]] := sp_app2 46 [] l
  have hp : 0 < (sp 46 l).length := List.length_pos_iff.2 (sp_ne 46 l)
  constructor
  · unfold partsL
    rw [e, if_pos ⟨by simp; omega, by simp [List.getLastD_eq_getLast?]⟩]
    simp
  · unfold partsL
    rw [if_neg]
    rintro ⟨_, h⟩
    rcases (sp_last 46 l).1 h with h | h
    · exact h0 h
    · exact hd h
theorem parts_dot (s : ByteArray) (h0 : s.data.toList ≠ []) (hd : s.data.toList.getLast? ≠ some 46) : partsB (s ++ ⟨#[46]⟩) = partsB s := by
  apply mapB_inj
  rw [parts_sp, parts_sp, app_data]
  obtain ⟨a, b⟩ := partsL_dot _ h0 hd
  exact a.trans b.symm

theorem pGo_last (en : Bool) (p : ByteArray) (h1 : dotB p = none) (h2 : hexNum p = none) : ∀ (ps : List ByteArray) (out : List Nat), ps.getLast? = some p → pGo en out ps = none
  | [], _, h => by simp at h
  | [q], out, h => by
    obtain rfl : q = p := by simpa using h
    simp [pGo, h1, h2]
  | q :: r :: t, out, h => by
    have ih := pGo_last en p h1 h2 (r :: t)
    rw [pGo, if_neg (by simp)]
    cases hexNum q with
    | none => rfl
    | some v => exact ih _ (by simpa [List.getLast?_cons_cons] using h)
theorem dotGo_last (p : ByteArray) (h1 : dotNum p = none) : ∀ (ps : List ByteArray) (k : Nat) (out : List Nat), ps.getLast? = some p → dotGo k out ps = none
  | [], _, _, h => by simp at h
  | [q], k, out, h => by
    obtain rfl : q = p := by simpa using h
    simp [dotGo, h1]
  | q :: r :: t, k, out, h => by
    have ih := dotGo_last p h1 (r :: t)
    rw [dotGo]
    cases dotNum q with
    | none => rfl
    | some v => exact ih _ _ (by simpa [List.getLast?_cons_cons] using h)
theorem hexNum_dot (p : ByteArray) (h : (46 : UInt8) ∈ p.data.toList) : hexNum p = none := by
  have : allB [kDec, kLet] p = false := by
    rw [allB_hex, Bool.eq_false_iff]
    intro e
    have := List.all_eq_true.1 e 46 h
    exact absurd this (by decide)
  unfold hexNum
  cases parseUS 16 65535 p.data.toList with
  | ok v => simp [this]
  | range => rfl
  | _ => rfl
theorem sp_last_dot (c : UInt8) (l : List UInt8) (h : l.getLast? = some c) : (sp c l).getLast? = some [] := by
  have := (sp_last c l).2 (.inr h)
  rw [List.getLastD_eq_getLast?] at this
  cases e : (sp c l).getLast? with
  | none => exact absurd (List.getLast?_eq_none_iff.1 e) (sp_ne c l)
  | some x => rw [e] at this; exact congrArg some this
theorem last_map (l : List ByteArray) (x : ByteArray) (h : (l.map (·.data.toList)).getLast? = some x.data.toList) : l.getLast? = some x := by
  rw [List.getLast?_map] at h
  cases e : l.getLast? with
  | none => rw [e] at h; simp at h
  | some y => rw [e] at h; exact congrArg some (toB_inj (Option.some.inj h))
theorem dotB_dot (p : ByteArray) (h : p.data.toList.getLast? = some 46) : dotB p = none := by
  unfold dotB
  split
  · have hl : (piecesB p).getLast? = some ByteArray.empty := last_map _ _ (by rw [pieces_sp]; exact sp_last_dot 46 _ h)
    rw [dotGo_last ByteArray.empty (by kernel_rfl) _ _ _ hl]; rfl
  · rfl
theorem pieces_dotend (s : ByteArray) (en : Bool) (h : s.data.toList.getLast? = some 46) : piecesS s en = none := by
  unfold piecesS
  rw [if_neg (by intro e; rw [Lib.size_eq] at e; rw [List.eq_nil_of_length_eq_zero e] at h; simp at h)]
  have hl : ∃ p, (sp 58 s.data.toList).getLast? = some p ∧ p.getLast? = some 46 := by
    obtain ⟨x, hx⟩ : ∃ x, s.data.toList = x ++ [46] := by
      obtain ⟨ys, hy⟩ := List.getLast?_eq_some_iff.1 h
      exact ⟨ys, hy⟩
    rw [hx]
    clear hx h
    induction x with
    | nil => exact ⟨[46], by simp [sp], rfl⟩
    | cons b r ih =>
      obtain ⟨p, h1, h2⟩ := ih
      by_cases hb : b = 58
      · refine ⟨p, ?_, h2⟩
        rw [List.cons_append, sp, if_pos hb]
        cases e : sp 58 (r ++ [46]) with
        | nil => exact absurd e (sp_ne _ _)
        | cons a t => rw [e] at h1; rw [List.getLast?_cons_cons]; exact h1
      · rw [List.cons_append, sp, if_neg hb]
        cases e : sp 58 (r ++ [46]) with
        | nil => exact absurd e (sp_ne _ _)
        | cons a t =>
          rw [e] at h1
          cases t with
          | nil =>
            obtain rfl : a = p := by simpa using h1
            refine ⟨b :: a, rfl, ?_⟩
            cases a with
            | nil => simp at h2
            | cons y z => rw [List.getLast?_cons_cons]; exact h2
          | cons y z => exact ⟨p, by rw [List.getLast?_cons_cons] at h1 ⊢; exact h1, h2⟩
  obtain ⟨p, h1, h2⟩ := hl
  have := last_map (colsB s) ⟨p.toArray⟩ (by rw [cols_sp]; exact h1)
  exact pGo_last en _ (dotB_dot _ (by simpa using h2)) (hexNum_dot _ (by simpa using List.mem_of_getLast? h2)) _ _ this
theorem v6_dot (s : ByteArray) (h : s.data.toList.getLast? = some 46) : v6B s = none := by
  have key : (gapB s = true ∧ (behindB s).data.toList.getLast? = some 46) ∨ (gapB s = false ∧ (aheadB s).data.toList.getLast? = some 46) := by
    unfold gapB behindB aheadB Lib.cut
    by_cases hi : 0 ≤ Lib.index s.data.toList [58, 58]
    · left
      rw [if_pos hi]
      refine ⟨rfl, ?_⟩
      rcases Lib.index_spec s.data.toList [58, 58] with ⟨e, _⟩ | ⟨i, e, hle, hocc, _⟩
      · omega
      · rw [e] at hi ⊢
        have hroom := Lib.index_room s.data.toList [58, 58] (by rw [e]; exact hi)
        rw [e] at hroom
        simp only [List.length_cons, List.length_nil] at hroom
        simp only [Int.toNat_natCast, List.length_cons, List.length_nil]
        have hg : s.data.toList[s.data.toList.length - 1]? = some 46 := by rw [← List.getLast?_eq_getElem?]; exact h
        have hlt : i + 2 < s.data.toList.length := by
          rcases Nat.lt_or_ge (i + 2) s.data.toList.length with h | h
          · exact h
          · have hh := hocc
            rw [Lib.occAt_iff_take _ _ _ (by simp only [List.length_cons, List.length_nil]; omega)] at hh
            have h2 := beq_iff_eq.1 hh
            have h3 : s.data.toList[i + 1]? = some 58 := by
              have : ((s.data.toList.drop i).take 2)[1]? = some 58 := by
                show ((s.data.toList.drop i).take [(58 : UInt8), 58].length)[1]? = some 58
                rw [h2]; rfl
              rw [List.getElem?_take, if_pos (by omega), List.getElem?_drop] at this
              exact this
            rw [show s.data.toList.length - 1 = i + 1 by omega, h3] at hg
            exact absurd hg (by decide)
        rw [List.getLast?_eq_getElem?]
        simp only [List.length_drop, List.getElem?_drop]
        rw [show i + (0 + 1 + 1) + (s.data.toList.length - (i + (0 + 1 + 1)) - 1) = s.data.toList.length - 1 by omega]
        exact hg
    · right
      rw [if_neg hi]
      exact ⟨rfl, h⟩
  unfold v6B
  rcases key with ⟨_, k2⟩ | ⟨_, k2⟩
  · rw [pieces_dotend _ _ k2]
    cases piecesS (aheadB s) (!gapB s) <;> rfl
  · rw [pieces_dotend _ _ k2]
theorem dot_law (s : ByteArray) : DotLaw s := by
  intro h0 hd
  have hne := ne_nil h0
  have hl : s.data.toList.getLast? ≠ some 46 := by
    rw [List.getLast?_eq_getElem?, ← Lib.size_eq]
    intro e
    have hi : s.size - 1 < s.size := by omega
    refine hd hi ?_
    rw [List.getElem?_eq_getElem (by rw [← Lib.size_eq]; exact hi)] at e
    exact Option.some.inj e
  have hp := parts_dot s hne hl
  refine ⟨?_, ?_, v6_dot _ (by rw [app_data]; simp)⟩
  · unfold endsB lastB; rw [hp]
  · unfold v4B; rw [hp]
end Go.Proofs.YthdepnahbhheoaaDoor
