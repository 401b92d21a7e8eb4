/- Addresses of version 4 and their texts: the plain laws -/
import Derived.Test.YthdepnahbhheoaaDoorPlB
namespace Go.Proofs.YthdepnahbhheoaaDoor
open Go.RowKit

theorem itoa_tab : ((List.range 256).all fun b => decide (numS (Lib.itoa b) = (b, true)) && decide ((46 : UInt8) ∉ Lib.itoa b) && decide ((58 : UInt8) ∉ Lib.itoa b) && decide (Lib.itoa b ≠ []) && decide (dotNum (itoaB b) = some b)) = true := by kernel_rfl
theorem itoa_at (b : Nat) (h : b < 256) : numS (Lib.itoa b) = (b, true) ∧ (46 : UInt8) ∉ Lib.itoa b ∧ (58 : UInt8) ∉ Lib.itoa b ∧ Lib.itoa b ≠ [] ∧ dotNum (itoaB b) = some b := by
  have := List.all_eq_true.1 itoa_tab b (List.mem_range.2 h)
  simp only [Bool.and_eq_true, decide_eq_true_eq] at this
  exact ⟨this.1.1.1.1, this.1.1.1.2, this.1.1.2, this.1.2, this.2⟩

def text4 (a b c d : Nat) : List UInt8 := Lib.itoa a ++ 46 :: (Lib.itoa b ++ 46 :: (Lib.itoa c ++ 46 :: Lib.itoa d))
theorem textV4_data (N : Nat) : (textV4B N).data.toList = text4 (byteAt N 0) (byteAt N 1) (byteAt N 2) (byteAt N 3) := by
  simp [textV4B, joinB, v4texts, text4, itoaB, Lib.join_cons, Lib.joinTail, List.range_succ]
theorem byteAt_sum (N : Nat) (h : N < 4294967296) : N = byteAt N 0 * 16777216 + byteAt N 1 * 65536 + byteAt N 2 * 256 + byteAt N 3 := by
  simp only [byteAt]; omega
theorem sp_text4 (a b c d : Nat) (ha : a < 256) (hb : b < 256) (hc : c < 256) (hd : d < 256) : sp 46 (text4 a b c d) = [Lib.itoa a, Lib.itoa b, Lib.itoa c, Lib.itoa d] := by
  unfold text4
  rw [sp_app _ _ _ (itoa_at a ha).2.1, sp_app _ _ _ (itoa_at b hb).2.1, sp_app _ _ _ (itoa_at c hc).2.1, sp_no _ _ (itoa_at d hd).2.1]
theorem parts_text4 (a b c d : Nat) (ha : a < 256) (hb : b < 256) (hc : c < 256) (hd : d < 256) : partsL (text4 a b c d) = [Lib.itoa a, Lib.itoa b, Lib.itoa c, Lib.itoa d] := by
  unfold partsL
  rw [sp_text4 a b c d ha hb hc hd, if_neg]
  rintro ⟨_, h⟩
  exact (itoa_at d hd).2.2.2.1 (by simpa [List.getLastD_eq_getLast?] using h)
/-- v4go over plain texts. -/
def v4goL (n : Nat) : Nat → Nat → List (List UInt8) → Option Nat
  | _, sum, [] => some sum
  | i, sum, p :: r =>
    if (numS p).2 then
      if i + 1 = n then
        if (numS p).1 / 2 ^ (8 * (5 - n)) = 0 then v4goL n (i + 1) (sum ||| (numS p).1) r else none
      else if 255 < (numS p).1 then none
      else v4goL n (i + 1) (sum ||| ((numS p).1 * 2 ^ (8 * (3 - i)))) r
    else none
theorem v4go_L (n : Nat) : ∀ (ps : List ByteArray) (i sum : Nat), v4go n i sum ps = v4goL n i sum (ps.map (·.data.toList))
  | [], _, _ => rfl
  | p :: r, i, sum => by
    simp only [List.map_cons, v4go, v4goL, v4go_L n r]
def v4L (l : List UInt8) : Option Nat := if 4 < (partsL l).length then none else v4goL (partsL l).length 0 0 (partsL l)
theorem v4B_L (s : ByteArray) : v4B s = v4L s.data.toList := by
  have h : (partsB s).length = (partsL s.data.toList).length := by rw [← parts_sp]; simp
  unfold v4B v4L
  rw [h, v4go_L, parts_sp]
theorem or_step (a b k : Nat) (h : b < 2 ^ k) : a * 2 ^ k ||| b = a * 2 ^ k + b := by
  rw [Nat.mul_comm, ← Nat.two_pow_add_eq_or_of_lt h]
theorem or4 (a b c d : Nat) (hb : b < 256) (hc : c < 256) (hd : d < 256) : (((0 ||| a * 2 ^ 24) ||| b * 2 ^ 16) ||| c * 2 ^ 8) ||| d = a * 16777216 + b * 65536 + c * 256 + d := by
  rw [Nat.zero_or, or_step a (b * 2 ^ 16) 24 (by omega)]
  rw [show a * 2 ^ 24 + b * 2 ^ 16 = (a * 256 + b) * 2 ^ 16 by omega, or_step _ (c * 2 ^ 8) 16 (by omega)]
  rw [show (a * 256 + b) * 2 ^ 16 + c * 2 ^ 8 = (a * 65536 + b * 256 + c) * 2 ^ 8 by omega, or_step _ d 8 (by omega)]
theorem v4goL_4 (p q r t : List UInt8) (a b c d : Nat) (hp : numS p = (a, true)) (hq : numS q = (b, true)) (hr : numS r = (c, true)) (ht : numS t = (d, true)) (ha : a < 256) (hb : b < 256) (hc : c < 256) (hd : d < 256) :
    v4goL 4 0 0 [p, q, r, t] = some (a * 16777216 + b * 65536 + c * 256 + d) := by
  simp only [v4goL, hp, hq, hr, ht]
  simp only [if_true, Nat.zero_add, Nat.reduceAdd, Nat.reduceEqDiff, if_false, if_neg (show ¬ 255 < a by omega), if_neg (show ¬ 255 < b by omega), if_neg (show ¬ 255 < c by omega), Nat.reduceSub, Nat.reduceMul, if_pos (show d / 2 ^ 8 = 0 by omega)]
  rw [or4 a b c d hb hc hd]
theorem v4_text (N : Nat) (h : N < 4294967296) : v4B (textV4B N) = some N := by
  have h0 := byteAt_lt N 0; have h1 := byteAt_lt N 1; have h2 := byteAt_lt N 2; have h3 := byteAt_lt N 3
  rw [v4B_L, textV4_data]
  unfold v4L
  rw [parts_text4 _ _ _ _ h0 h1 h2 h3]
  rw [if_neg (by simp)]
  have := v4goL_4 _ _ _ _ _ _ _ _ (itoa_at _ h0).1 (itoa_at _ h1).1 (itoa_at _ h2).1 (itoa_at _ h3).1 h0 h1 h2 h3
  simp only [List.length_cons, List.length_nil, Nat.zero_add, Nat.reduceAdd]
  rw [this, ← byteAt_sum N h]
theorem text4_last (a b c d : Nat) (hd : d < 256) : (text4 a b c d).getLast? ≠ some 46 ∧ text4 a b c d ≠ [] := by
  obtain ⟨_, h1, _, h2, _⟩ := itoa_at d hd
  have : (text4 a b c d).getLast? = (Lib.itoa d).getLast? := by
    unfold text4
    obtain ⟨x, y, e⟩ := List.exists_cons_of_ne_nil h2
    rw [e]
    simp [List.getLast?_append, List.getLast?_cons]
  constructor
  · rw [this]
    intro e
    exact h1 (List.mem_of_getLast? e)
  · simp [text4]
theorem v4_text_dot (N : Nat) (h : N < 4294967296) : v4B (textV4B N ++ ⟨#[46]⟩) = some N := by
  obtain ⟨a, b⟩ := text4_last (byteAt N 0) (byteAt N 1) (byteAt N 2) (byteAt N 3) (byteAt_lt N 3)
  unfold v4B
  rw [parts_dot _ (by rw [textV4_data]; exact b) (by rw [textV4_data]; exact a)]
  exact v4_text N h

theorem text4_no58 (a b c d : Nat) (ha : a < 256) (hb : b < 256) (hc : c < 256) (hd : d < 256) : (58 : UInt8) ∉ text4 a b c d := by
  have h1 := (itoa_at a ha).2.2.1; have h2 := (itoa_at b hb).2.2.1; have h3 := (itoa_at c hc).2.2.1; have h4 := (itoa_at d hd).2.2.1
  simp only [text4, List.mem_append, List.mem_cons, not_or]
  exact ⟨h1, by decide, h2, by decide, h3, by decide, h4⟩
theorem toB_eq (s : ByteArray) : s = ⟨s.data.toList.toArray⟩ := by simp
theorem dotB_text (N : Nat) : dotB (textV4B N) = some (256 * byteAt N 0 + byteAt N 1, 256 * byteAt N 2 + byteAt N 3) := by
  have h0 := byteAt_lt N 0; have h1 := byteAt_lt N 1; have h2 := byteAt_lt N 2; have h3 := byteAt_lt N 3
  have hp : piecesB (textV4B N) = [itoaB (byteAt N 0), itoaB (byteAt N 1), itoaB (byteAt N 2), itoaB (byteAt N 3)] := by
    apply mapB_inj
    rw [pieces_sp, textV4_data, sp_text4 _ _ _ _ h0 h1 h2 h3]
    simp [itoaB]
  unfold dotB
  rw [hp, if_pos (by rfl)]
  simp only [dotGo, (itoa_at _ h0).2.2.2.2, (itoa_at _ h1).2.2.2.2, (itoa_at _ h2).2.2.2.2, (itoa_at _ h3).2.2.2.2]
  rfl
theorem v6_text4 (N : Nat) (h : N < 4294967296) : v6B (⟨#[58, 58]⟩ ++ textV4B N) = some [0, 0, 0, 0, 0, 0, N / 65536, N % 65536] := by
  have h0 := byteAt_lt N 0; have h1 := byteAt_lt N 1; have h2 := byteAt_lt N 2; have h3 := byteAt_lt N 3
  have hd : (⟨#[58, 58]⟩ ++ textV4B N : ByteArray).data.toList = [58, 58] ++ (textV4B N).data.toList := by rw [app_data]
  have hi : Lib.index ([58, 58] ++ (textV4B N).data.toList) [58, 58] = 0 := by
    simp [Lib.index]
  have hcut : Lib.cut (⟨#[58, 58]⟩ ++ textV4B N : ByteArray).data.toList [58, 58] = ([], (textV4B N).data.toList, true) := by
    rw [hd]; unfold Lib.cut
    rw [hi]; simp
  have e1 : aheadB (⟨#[58, 58]⟩ ++ textV4B N) = ByteArray.empty := by unfold aheadB; rw [hcut]; rfl
  have e2 : behindB (⟨#[58, 58]⟩ ++ textV4B N) = textV4B N := by unfold behindB; rw [hcut]
  have e3 : gapB (⟨#[58, 58]⟩ ++ textV4B N) = true := by unfold gapB; rw [hcut]
  have p1 : piecesS ByteArray.empty (!true) = some [] := by kernel_rfl
  have p2 : piecesS (textV4B N) true = some [256 * byteAt N 0 + byteAt N 1, 256 * byteAt N 2 + byteAt N 3] := by
    unfold piecesS
    have hne : ¬ (textV4B N).size = 0 := by
      rw [Lib.size_eq, textV4_data]
      exact fun e => (text4_last _ _ _ _ h3).2 (List.eq_nil_of_length_eq_zero e)
    have hc : colsB (textV4B N) = [textV4B N] := by
      apply mapB_inj
      rw [cols_sp, textV4_data, sp_no _ _ (text4_no58 _ _ _ _ h0 h1 h2 h3)]
      simp [textV4_data]
    rw [if_neg hne, hc]
    simp [pGo, dotB_text]
  unfold v6B
  rw [e1, e2, e3, p1, p2]
  have s1 : 256 * byteAt N 0 + byteAt N 1 = N / 65536 := by simp only [byteAt]; omega
  have s2 : 256 * byteAt N 2 + byteAt N 3 = N % 65536 := by simp only [byteAt]; omega
  rw [s1, s2]
  simp [splice, List.replicate]
/-- What is read as an address ends in a number. -/
theorem v4go_all (n : Nat) : ∀ (ps : List ByteArray) (i sum m : Nat), v4go n i sum ps = some m → ∀ p ∈ ps, (numS p.data.toList).2 = true
  | [], _, _, _, _, p, hp => by simp at hp
  | q :: r, i, sum, m, h, p, hp => by
    rw [v4go] at h
    by_cases hq : (numS q.data.toList).2 = true
    · rw [if_pos hq] at h
      rcases List.mem_cons.1 hp with rfl | hp
      · exact hq
      · split at h
        · split at h
          · exact v4go_all n r _ _ _ h p hp
          · cases h
        · split at h
          · cases h
          · exact v4go_all n r _ _ _ h p hp
    · rw [if_neg hq] at h; cases h
theorem v4_ends (s : ByteArray) (m : Nat) (h : v4B s = some m) : endsB s = true := by
  unfold v4B at h
  split at h
  · cases h
  · have hp := partsB_pos s
    have hm : lastB s ∈ partsB s := by
      unfold lastB
      rw [List.getLastD_eq_getLast?]
      cases e : (partsB s).getLast? with
      | none => rw [List.getLast?_eq_none_iff] at e; rw [e] at hp; simp at hp
      | some x => exact List.mem_of_getLast? e
    unfold endsB
    rw [v4go_all _ _ _ _ _ h _ hm]; rfl
end Go.Proofs.YthdepnahbhheoaaDoor
