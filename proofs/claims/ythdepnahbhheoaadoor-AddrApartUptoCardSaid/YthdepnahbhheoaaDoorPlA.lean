/- Texts split at a byte, by plain recursion; what the library's split is at one byte. No program in this text. -/
import Derived.Lib.Split
namespace Go.Proofs.YthdepnahbhheoaaDoor

/-- What stands between the bytes c. -/
def sp (c : UInt8) : List UInt8 → List (List UInt8)
  | [] => [[]]
  | b :: r => if b = c then [] :: sp c r else match sp c r with
    | h :: t => (b :: h) :: t
    | [] => [[b]]
theorem sp_ne (c : UInt8) : ∀ l, sp c l ≠ []
  | [] => by simp [sp]
  | b :: r => by
    unfold sp
    split
    · simp
    · split <;> simp
theorem sp_app (c : UInt8) (b : List UInt8) : ∀ a : List UInt8, c ∉ a → sp c (a ++ c :: b) = a :: sp c b
  | [], _ => by simp [sp]
  | x :: a, h => by
    have hx : ¬ x = c := fun e => h (by simp [e])
    have ih := sp_app c b a (fun e => h (by simp [e]))
    rw [List.cons_append, sp, if_neg hx, ih]
theorem sp_no (c : UInt8) : ∀ a : List UInt8, c ∉ a → sp c a = [a]
  | [], _ => rfl
  | x :: a, h => by
    have hx : ¬ x = c := fun e => h (by simp [e])
    have ih := sp_no c a (fun e => h (by simp [e]))
    rw [sp, if_neg hx, ih]
theorem sp_app2 (c : UInt8) (b : List UInt8) : ∀ a : List UInt8, sp c (a ++ c :: b) = sp c a ++ sp c b
  | [] => by simp [sp]
  | x :: a => by
    have ih := sp_app2 c b a
    by_cases hx : x = c
    · rw [List.cons_append, sp, if_pos hx, ih, sp, if_pos hx]; rfl
    · rw [List.cons_append, sp, if_neg hx, ih, sp, if_neg hx]
      cases h : sp c a with
      | nil => exact absurd h (sp_ne c a)
      | cons p q => rfl
/-- No part has the byte. -/
theorem sp_mem (c : UInt8) : ∀ (l p : List UInt8), p ∈ sp c l → c ∉ p
  | [], p, h => by simp [sp] at h; subst h; simp
  | b :: r, p, h => by
    rw [sp] at h
    have ih := sp_mem c r
    by_cases hx : b = c
    · rw [if_pos hx] at h
      rcases List.mem_cons.1 h with rfl | h
      · simp
      · exact ih p h
    · rw [if_neg hx] at h
      cases hs : sp c r with
      | nil => exact absurd hs (sp_ne c r)
      | cons a t =>
        rw [hs] at h ih
        rcases List.mem_cons.1 h with rfl | h
        · have := ih a (by simp)
          simp only [List.mem_cons, not_or]
          exact ⟨fun e => hx e.symm, this⟩
        · exact ih p (by simp [h])
/-- The last part is empty just where the text is, or ends with the byte. -/
theorem sp_last (c : UInt8) : ∀ l, (sp c l).getLastD [] = [] ↔ l = [] ∨ l.getLast? = some c
  | [] => by simp [sp]
  | b :: r => by
    have ih := sp_last c r
    rw [sp]
    by_cases hx : b = c
    · rw [if_pos hx]
      cases hs : sp c r with
      | nil => exact absurd hs (sp_ne c r)
      | cons a t =>
        rw [hs] at ih
        rw [show ([] :: a :: t).getLastD [] = (a :: t).getLastD [] by simp [List.getLastD]]
        rw [ih]
        subst hx
        cases r with
        | nil => simp
        | cons x y => simp [List.getLast?_cons_cons]
    · rw [if_neg hx]
      cases hs : sp c r with
      | nil => exact absurd hs (sp_ne c r)
      | cons a t =>
        rw [hs] at ih
        show ((b :: a) :: t).getLastD [] = [] ↔ _
        cases t with
        | nil =>
          simp only [List.getLastD_cons, List.getLastD_nil] at ih ⊢
          constructor
          · intro h; simp at h
          · rintro (h | h)
            · simp at h
            · cases r with
              | nil => simp at h; exact absurd h hx
              | cons x y =>
                rw [List.getLast?_cons_cons] at h
                have := ih.2 (.inr h)
                subst this
                simp [sp] at hs
                split at hs
                · simp at hs; exact absurd hs (sp_ne c y)
                · split at hs <;> simp at hs
        | cons d t =>
          rw [show ((b :: a) :: d :: t).getLastD [] = (a :: d :: t).getLastD [] by simp [List.getLastD]]
          rw [ih]
          cases r with
          | nil => simp [sp] at hs
          | cons x y => simp [List.getLast?_cons_cons]
/-- The first place of a byte. -/
theorem split_at (c : UInt8) : ∀ l : List UInt8, c ∈ l → ∃ a b, l = a ++ c :: b ∧ c ∉ a
  | [], h => by simp at h
  | x :: l, h => by
    by_cases hx : x = c
    · exact ⟨[], l, by simp [hx], by simp⟩
    · obtain ⟨a, b, e, hn⟩ := split_at c l (by
        rcases List.mem_cons.1 h with h | h
        · exact absurd h.symm hx
        · exact h)
      exact ⟨x :: a, b, by simp [e], by
        simp only [List.mem_cons, not_or]; exact ⟨fun e => hx e.symm, hn⟩⟩
theorem index1_no (c : UInt8) (l : List UInt8) (h : c ∉ l) : Lib.index l [c] = -1 :=
  Lib.index_none fun j _ => by
    cases e : Lib.occAt l [c] j with
    | false => rfl
    | true => exact absurd (List.mem_of_getElem? (Lib.occAt_head rfl e)) h
theorem index1_at (c : UInt8) (a b : List UInt8) (h : c ∉ a) : Lib.index (a ++ c :: b) [c] = a.length :=
  Lib.index_first (by simp) (by unfold Lib.occAt; simp) fun j hj => by
    cases e : Lib.occAt (a ++ c :: b) [c] j with
    | false => rfl
    | true =>
      have := Lib.occAt_head rfl e
      rw [List.getElem?_append_left hj] at this
      exact absurd (List.mem_of_getElem? this) h
theorem split_sp (c : UInt8) : ∀ (n : Nat) (l : List UInt8), l.length ≤ n → Lib.splitK [c] 0 (Lib.count l [c]) l = sp c l
  | n, l, hn => by
    by_cases h : c ∈ l
    · obtain ⟨a, b, rfl, ha⟩ := split_at c l h
      have hi := index1_at c a b ha
      rw [Lib.count_hit (by simp) hi, Nat.add_comm, Lib.splitK, if_neg (by rw [hi]; simp), hi]
      cases n with
      | zero => simp at hn
      | succ n =>
        have e : (a ++ c :: b).drop (a.length + [c].length) = b := by
          rw [show a.length + [c].length = (a ++ [c]).length by simp, show a ++ c :: b = (a ++ [c]) ++ b by simp, List.drop_left]
        rw [show ((a.length : Int)).toNat = a.length by omega, e, split_sp c n b (by simp at hn; omega), sp_app c b a ha]
        simp
    · rw [Lib.count_miss (index1_no c l h), Lib.splitK, sp_no c l h]
theorem splitB_sp (c : UInt8) (s : ByteArray) : (Lib.splitB ⟨#[c]⟩ 0 (Lib.countB s ⟨#[c]⟩) s).map (·.data.toList) = sp c s.data.toList := by
  rw [Lib.splitB_data]
  exact split_sp c _ _ (Nat.le_refl _)

end Go.Proofs.YthdepnahbhheoaaDoor
