/- Addresses of version 6 and their texts: the plain laws -/
import Derived.Test.YthdepnahbhheoaaDoorPlC
namespace Go.Proofs.YthdepnahbhheoaaDoor
open Go.RowKit

/-! The digits -/
theorem dig_tab : ((List.range 16).all fun d => decide (digV (UInt8.ofNat (hexDig d)) = d) && (isDec (UInt8.ofNat (hexDig d)) || isLet (UInt8.ofNat (hexDig d))) && decide (UInt8.ofNat (hexDig d) ≠ 58) && decide (UInt8.ofNat (hexDig d) ≠ 46) && !(decide (65 ≤ (UInt8.ofNat (hexDig d)).toNat) && decide ((UInt8.ofNat (hexDig d)).toNat ≤ 90))) = true := by kernel_rfl
/-- A small hexadecimal digit. -/
def IsHex (c : UInt8) : Prop := ∃ d, d < 16 ∧ c = UInt8.ofNat (hexDig d)
theorem dig_at (d : Nat) (h : d < 16) : digV (UInt8.ofNat (hexDig d)) = d ∧ (isDec (UInt8.ofNat (hexDig d)) || isLet (UInt8.ofNat (hexDig d))) = true ∧ UInt8.ofNat (hexDig d) ≠ 58 ∧ UInt8.ofNat (hexDig d) ≠ 46 ∧ ¬ (65 ≤ (UInt8.ofNat (hexDig d)).toNat ∧ (UInt8.ofNat (hexDig d)).toNat ≤ 90) := by
  have := List.all_eq_true.1 dig_tab d (List.mem_range.2 h)
  simp only [Bool.and_eq_true, decide_eq_true_eq, Bool.not_eq_true', Bool.and_eq_false_iff, decide_eq_false_iff_not] at this
  obtain ⟨⟨⟨⟨a, b⟩, c⟩, e⟩, f⟩ := this
  exact ⟨a, b, c, e, by omega⟩
theorem hexGo_mem : ∀ k n acc x, n < 16 ^ (k + 1) → x ∈ hexGo k n acc → x ∈ acc ∨ ∃ d, d < 16 ∧ x = hexDig d
  | 0, n, acc, x, hn, h => by
    rw [hexGo] at h
    rcases List.mem_cons.1 h with h | h
    · exact .inr ⟨n, by simpa using hn, h⟩
    · exact .inl h
  | k + 1, n, acc, x, hn, h => by
    rw [hexGo] at h
    split at h
    · rcases List.mem_cons.1 h with h | h
      · exact .inr ⟨n, by omega, h⟩
      · exact .inl h
    · rcases hexGo_mem k _ _ x (by rw [Nat.pow_succ] at hn; omega) h with h | h
      · rcases List.mem_cons.1 h with h | h
        · exact .inr ⟨n % 16, by omega, h⟩
        · exact .inl h
      · exact .inr h
theorem hexGo_parse (M : Nat) : ∀ k n acc, n < 16 ^ (k + 1) → n ≤ M → parseU 16 M 0 ((hexGo k n acc).map UInt8.ofNat) = parseU 16 M n (acc.map UInt8.ofNat)
  | 0, n, acc, hn, hM => by
    have hd := (dig_at n (by simpa using hn)).1
    rw [hexGo, List.map_cons, parseU, hd, if_neg (by simp at hn; omega), if_neg (by omega)]
    simp
  | k + 1, n, acc, hn, hM => by
    rw [hexGo]
    split
    · have hd := (dig_at n (by omega)).1
      rw [List.map_cons, parseU, hd, if_neg (by omega), if_neg (by omega)]
      simp
    · have hd := (dig_at (n % 16) (by omega)).1
      rw [hexGo_parse M k _ _ (by rw [Nat.pow_succ] at hn; omega) (by omega), List.map_cons, parseU, hd, if_neg (by omega), if_neg (by omega)]
      rw [show n / 16 * 16 + n % 16 = n by omega]
theorem hexGo_ne : ∀ k n acc, hexGo k n acc ≠ []
  | 0, _, _ => by simp [hexGo]
  | k + 1, n, acc => by
    rw [hexGo]; split
    · simp
    · exact hexGo_ne k _ _
theorem hexS_data (n : Nat) : (hexS n).data.toList = (hexL n).map UInt8.ofNat := by simp [hexS]
theorem hexS_hex (n : Nat) (h : n < 65536) : ∀ c ∈ (hexS n).data.toList, IsHex c := by
  intro c hc
  rw [hexS_data, List.mem_map] at hc
  obtain ⟨x, hx, rfl⟩ := hc
  rcases hexGo_mem 3 n [] x (by omega) hx with h | ⟨d, hd, rfl⟩
  · simp at h
  · exact ⟨d, hd, rfl⟩
theorem hexS_ne (n : Nat) : (hexS n).data.toList ≠ [] := by
  rw [hexS_data]; intro e; exact hexGo_ne 3 n [] (List.map_eq_nil_iff.1 e)
theorem hexS_no (n : Nat) (h : n < 65536) : (58 : UInt8) ∉ (hexS n).data.toList ∧ (46 : UInt8) ∉ (hexS n).data.toList := by
  constructor
  · intro hc
    obtain ⟨d, hd, e⟩ := hexS_hex n h _ hc
    exact (dig_at d hd).2.2.1 e.symm
  · intro hc
    obtain ⟨d, hd, e⟩ := hexS_hex n h _ hc
    exact (dig_at d hd).2.2.2.1 e.symm
theorem hexNum_hexS (n : Nat) (h : n < 65536) : hexNum (hexS n) = some n := by
  have h1 : parseUS 16 65535 (hexS n).data.toList = .ok n := by
    unfold parseUS
    rw [if_neg (hexS_ne n), hexS_data]
    unfold hexL
    rw [hexGo_parse 65535 3 n [] (by omega) (by omega)]; rfl
  have h2 : allB [kDec, kLet] (hexS n) = true := by
    rw [allB_hex, List.all_eq_true]
    intro c hc
    obtain ⟨d, hd, rfl⟩ := hexS_hex n h c hc
    exact (dig_at d hd).2.1
  have h3 : (hexS n).size ≤ 4 := by rw [Lib.size_eq, hexS_data, List.length_map]; exact hexL_short n
  unfold hexNum
  rw [h1]
  simp [h2, h3]
theorem dotB_hexS (n : Nat) (h : n < 65536) : dotB (hexS n) = none := by
  unfold dotB
  have : (piecesB (hexS n)).length = 1 := by
    have := congrArg List.length (pieces_sp (hexS n))
    rw [sp_no _ _ (hexS_no n h).2] at this
    simpa using this
  rw [if_neg (by omega)]

/-! The pieces -/
theorem sp_join (c : UInt8) : ∀ ps : List (List UInt8), ps ≠ [] → (∀ p ∈ ps, c ∉ p) → sp c (Lib.join ps [c]) = ps
  | [], h, _ => absurd rfl h
  | [p], _, h => by rw [Lib.join_one]; exact sp_no c p (h p (by simp))
  | p :: q :: r, _, h => by
    have ih := sp_join c (q :: r) (by simp) (fun x hx => h x (by simp [hx]))
    have e : Lib.join (p :: q :: r) [c] = p ++ c :: Lib.join (q :: r) [c] := by
      rw [Lib.join_cons, Lib.join_cons]
      simp [Lib.joinTail]
    rw [e, sp_app c _ p (h p (by simp)), ih]
theorem hexJ_data (l : List Nat) : (hexJ l).data.toList = Lib.join (l.map fun n => (hexS n).data.toList) [58] := by simp [hexJ, joinB, Function.comp_def]
theorem cols_hexJ (l : List Nat) (hne : l ≠ []) (hlt : ∀ n ∈ l, n < 65536) : colsB (hexJ l) = l.map hexS := by
  apply mapB_inj
  rw [cols_sp, hexJ_data, sp_join 58 _ (by simpa using hne)]
  · simp
  · intro p hp
    obtain ⟨n, hn, rfl⟩ := List.mem_map.1 hp
    exact (hexS_no n (hlt n hn)).1
theorem pGo_hex (en : Bool) : ∀ (l out : List Nat), (∀ n ∈ l, n < 65536) → pGo en out (l.map hexS) = some (out ++ l)
  | [], out, _ => by simp [pGo]
  | n :: r, out, h => by
    have hn := h n (by simp)
    rw [List.map_cons, pGo]
    have hd : (if en = true ∧ r.map hexS = [] then dotB (hexS n) else none) = none := by
      split
      · exact dotB_hexS n hn
      · rfl
    rw [hd]
    simp only [hexNum_hexS n hn]
    rw [pGo_hex en r _ (fun x hx => h x (by simp [hx]))]
    simp
theorem hexJ_ne (n : Nat) (r : List Nat) : (hexJ (n :: r)).data.toList ≠ [] := by
  rw [hexJ_data, List.map_cons, Lib.join_cons]
  intro e
  exact hexS_ne n (List.append_eq_nil_iff.1 e).1
theorem pieces_hexJ (l : List Nat) (en : Bool) (hlt : ∀ n ∈ l, n < 65536) : piecesS (hexJ l) en = some l := by
  cases l with
  | nil =>
    have : hexJ [] = ByteArray.empty := by kernel_rfl
    rw [this]; rfl
  | cons n r =>
    unfold piecesS
    rw [if_neg (by rw [Lib.size_eq]; intro e; exact hexJ_ne n r (List.eq_nil_of_length_eq_zero e)), cols_hexJ _ (by simp) hlt, pGo_hex en _ _ hlt]
    rfl

/-! Where "::" stands -/
def sh (k : Nat) (i : Int) : Int := if i = -1 then -1 else k + i
theorem sh_sh (a b : Nat) (i : Int) (hi : -1 ≤ i) : sh a (sh b i) = sh (a + b) i := by
  unfold sh; split
  · rfl
  · rw [if_neg (by omega)]; omega
theorem idx_cons (b : UInt8) (l : List UInt8) (h : [58, 58].isPrefixOf (b :: l) = false) : Lib.index (b :: l) [58, 58] = sh 1 (Lib.index l [58, 58]) := by
  rw [Lib.index, h]
  unfold sh
  by_cases e : Lib.index l [58, 58] = -1
  · simp [e]
  · simp [e]; omega
theorem idx_no (s : List UInt8) : ∀ p : List UInt8, (58 : UInt8) ∉ p → Lib.index (p ++ s) [58, 58] = sh p.length (Lib.index s [58, 58])
  | [], _ => by
    have := Lib.index_ge s [58, 58]
    unfold sh; simp
  | b :: p, h => by
    have hb : b ≠ 58 := fun e => h (by simp [e])
    have ih := idx_no s p (fun e => h (by simp [e]))
    have hp : [58, 58].isPrefixOf (b :: (p ++ s)) = false := by
      simp [List.isPrefixOf, Ne.symm hb]
    rw [List.cons_append, idx_cons _ _ hp, ih, sh_sh _ _ _ (Lib.index_ge _ _), List.length_cons, Nat.add_comm]
theorem idx_join (s : List UInt8) : ∀ ps : List (List UInt8), (∀ p ∈ ps, (58 : UInt8) ∉ p ∧ p ≠ []) → Lib.index (Lib.join ps [58] ++ s) [58, 58] = sh (Lib.join ps [58]).length (Lib.index s [58, 58])
  | [], _ => by rw [Lib.join_nil]; unfold sh; simp
  | [p], h => by rw [Lib.join_one]; exact idx_no s p (h p (by simp)).1
  | p :: q :: r, h => by
    have ih := idx_join s (q :: r) (fun x hx => h x (by simp [hx]))
    have e : Lib.join (p :: q :: r) [58] = p ++ 58 :: Lib.join (q :: r) [58] := by
      rw [Lib.join_cons, Lib.join_cons]
      simp [Lib.joinTail]
    obtain ⟨hq, hqn⟩ := h q (by simp)
    obtain ⟨x, y, rfl⟩ := List.exists_cons_of_ne_nil hqn
    have hx : x ≠ 58 := fun e => hq (by simp [e])
    have hpre : [58, 58].isPrefixOf (58 :: (Lib.join ((x :: y) :: r) [58] ++ s)) = false := by
      rw [Lib.join_cons]
      simp [List.isPrefixOf, Ne.symm hx]
    rw [e, List.append_assoc, idx_no _ p (h p (by simp)).1, List.cons_append, idx_cons _ _ hpre, ih, sh_sh _ _ _ (Lib.index_ge _ _), sh_sh _ _ _ (Lib.index_ge _ _)]
    congr 1
    simp; omega
theorem hexparts (l : List Nat) (hlt : ∀ n ∈ l, n < 65536) : ∀ p ∈ l.map (fun n => (hexS n).data.toList), (58 : UInt8) ∉ p ∧ p ≠ [] := by
  intro p hp
  obtain ⟨n, hn, rfl⟩ := List.mem_map.1 hp
  exact ⟨(hexS_no n (hlt n hn)).1, hexS_ne n⟩
theorem cut_gap (a b : List Nat) (ha : ∀ n ∈ a, n < 65536) : Lib.cut ((hexJ a).data.toList ++ [58, 58] ++ (hexJ b).data.toList) [58, 58] = ((hexJ a).data.toList, (hexJ b).data.toList, true) := by
  have hi : Lib.index ((hexJ a).data.toList ++ [58, 58] ++ (hexJ b).data.toList) [58, 58] = (hexJ a).data.toList.length := by
    rw [List.append_assoc, hexJ_data a, idx_join _ _ (hexparts a ha)]
    have : Lib.index ([58, 58] ++ (hexJ b).data.toList) [58, 58] = 0 := by simp [Lib.index]
    rw [this]; unfold sh; simp
  unfold Lib.cut
  rw [hi, if_pos (by omega)]
  simp only [Int.toNat_natCast, List.append_assoc, List.take_left]
  have e : (hexJ a).data.toList.length + [(58 : UInt8), 58].length = ((hexJ a).data.toList ++ [58, 58]).length := by simp
  rw [e, ← List.append_assoc, List.drop_left]
theorem cut_none (l : List Nat) (h : ∀ n ∈ l, n < 65536) : Lib.cut (hexJ l).data.toList [58, 58] = ((hexJ l).data.toList, [], false) := by
  have hi : Lib.index (hexJ l).data.toList [58, 58] = -1 := by
    have := idx_join [] _ (hexparts l h)
    rw [← hexJ_data, List.append_nil] at this
    rw [this]; rfl
  unfold Lib.cut
  rw [hi, if_neg (by omega)]

/-! The run of noughts -/
theorem runTo_zero (l : List Nat) : ∀ k n j, n ≤ j → j < runTo l k n → l.getD j 0 = 0
  | 0, n, j, h1, h2 => by simp [runTo] at h2; omega
  | k + 1, n, j, h1, h2 => by
    rw [runTo] at h2
    split at h2
    · rename_i h
      by_cases e : j = n
      · subst e; exact h
      · exact runTo_zero l k (n + 1) j (by omega) h2
    · omega
def GapOk (l : List Nat) (f t : Nat) : Prop := (f = 0 ∧ t = 0) ∨ (f + 2 ≤ t ∧ t ≤ 8 ∧ ∀ j, f ≤ j → j < t → l.getD j 0 = 0)
theorem gapGo_ok (l : List Nat) : ∀ k i f t, i + k = 8 → GapOk l f t → GapOk l (gapGo l k i f t).1 (gapGo l k i f t).2
  | 0, _, _, _, _, h => h
  | k + 1, i, f, t, hk, h => by
    rw [gapGo]
    have hr := runTo_ge l (8 - i) i
    split
    · refine gapGo_ok l k (i + 1) _ _ (by omega) (.inr ⟨by omega, by omega, fun j h1 h2 => runTo_zero l _ _ _ h1 h2⟩)
    · exact gapGo_ok l k (i + 1) _ _ (by omega) h
theorem gapS_ok (l : List Nat) : GapOk l (gapS l).1 (gapS l).2 := gapGo_ok l 8 0 0 0 rfl (.inl ⟨rfl, rfl⟩)
theorem splice_zero (n : Nat) (a : List Nat) : splice (List.replicate n 0) 0 a = a ++ List.replicate (n - a.length) 0 := by
  simp [splice]
theorem splice_gap (l : List Nat) (f t : Nat) (hl : l.length = 8) (h2 : f + 2 ≤ t) (h8 : t ≤ 8) (hz : ∀ j, f ≤ j → j < t → l.getD j 0 = 0) :
    splice (splice (List.replicate 8 0) 0 (l.take f)) (8 - (l.drop t).length) (l.drop t) = l := by
  have hf : (l.take f).length = f := by rw [List.length_take]; omega
  have ht : l.take t = l.take f ++ List.replicate (t - f) 0 := by
    apply List.ext_getElem?
    intro j
    by_cases h1 : j < f
    · rw [List.getElem?_append_left (by omega), List.getElem?_take, List.getElem?_take, if_pos h1, if_pos (by omega)]
    · rw [List.getElem?_append_right (by omega), hf, List.getElem?_replicate, List.getElem?_take]
      by_cases h3 : j < t
      · have := hz j (by omega) h3
        rw [List.getD_eq_getElem?_getD, List.getElem?_eq_getElem (by omega)] at this
        rw [if_pos h3, if_pos (by omega), List.getElem?_eq_getElem (by omega)]
        exact congrArg some this
      · rw [if_neg h3, if_neg (by omega)]
  have e2 : 8 - (l.drop t).length = t := by rw [List.length_drop]; omega
  have hd : List.drop (t + (l.drop t).length) (l.take f ++ List.replicate (8 - f) 0) = [] :=
    List.drop_eq_nil_of_le (by rw [List.length_append, hf, List.length_replicate, List.length_drop]; omega)
  rw [splice_zero, e2, hf]
  unfold splice
  rw [List.take_append, hf, List.take_of_length_le (by omega), List.take_replicate, Nat.min_eq_left (by omega), ← ht, hd, List.append_nil, List.take_append_drop]
theorem v6_text (l : List Nat) (hl : l.length = 8) (hlt : ∀ n ∈ l, n < 65536) : v6B (textV6B l) = some l := by
  have hdrop : ∀ (m : Nat), ∀ n ∈ l.drop m, n < 65536 := fun m n hn => hlt n (List.mem_of_mem_drop hn)
  have htake : ∀ (m : Nat), ∀ n ∈ l.take m, n < 65536 := fun m n hn => hlt n (List.mem_of_mem_take hn)
  unfold textV6B
  by_cases h0 : l = List.replicate 8 0
  · rw [if_pos h0, h0]
    have : v6B ⟨#[58, 58]⟩ = some [0, 0, 0, 0, 0, 0, 0, 0] := by kernel_rfl
    exact this
  · rw [if_neg h0]
    by_cases ht : (gapS l).2 = 0
    · rw [if_pos ht]
      have hc := cut_none l hlt
      have e1 : aheadB (hexJ l) = hexJ l := by unfold aheadB; rw [hc]
      have e2 : behindB (hexJ l) = ByteArray.empty := by unfold behindB; rw [hc]; rfl
      have e3 : gapB (hexJ l) = false := by unfold gapB; rw [hc]
      have p2 : piecesS ByteArray.empty true = some [] := rfl
      unfold v6B
      rw [e1, e2, e3, pieces_hexJ l _ hlt, p2]
      simp only [hl]
      rw [if_neg (by simp)]
      simp [splice, hl]
    · rw [if_neg ht]
      rcases gapS_ok l with ⟨_, h⟩ | ⟨h2, h8, hz⟩
      · exact absurd h ht
      · generalize (gapS l).1 = f at *
        generalize (gapS l).2 = t at *
        have hc := cut_gap (l.take f) (l.drop t) (htake f)
        have e1 : aheadB ⟨((hexJ (l.take f)).data.toList ++ [58, 58] ++ (hexJ (l.drop t)).data.toList).toArray⟩ = hexJ (l.take f) := by
          unfold aheadB; simp only []; rw [hc]
        have e2 : behindB ⟨((hexJ (l.take f)).data.toList ++ [58, 58] ++ (hexJ (l.drop t)).data.toList).toArray⟩ = hexJ (l.drop t) := by
          unfold behindB; simp only []; rw [hc]
        have e3 : gapB ⟨((hexJ (l.take f)).data.toList ++ [58, 58] ++ (hexJ (l.drop t)).data.toList).toArray⟩ = true := by
          unfold gapB; simp only []; rw [hc]
        unfold v6B
        rw [e1, e2, e3, pieces_hexJ _ _ (htake f), pieces_hexJ _ _ (hdrop t)]
        simp only []
        rw [if_neg (by simp [hl]; omega), splice_gap l f t hl h2 h8 hz]
/-- Every byte of such a text is a small digit or a colon. -/
theorem join_hex (l : List Nat) (hlt : ∀ n ∈ l, n < 65536) : ∀ c ∈ (hexJ l).data.toList, IsHex c ∨ c = 58 := by
  intro c hc
  rw [hexJ_data] at hc
  cases l with
  | nil => simp [Lib.join_nil] at hc
  | cons n r =>
    rw [List.map_cons, Lib.join_cons, List.mem_append] at hc
    rcases hc with hc | hc
    · exact .inl (hexS_hex n (hlt n (by simp)) c hc)
    · simp only [Lib.joinTail, List.mem_flatten, List.mem_map] at hc
      obtain ⟨x, ⟨y, ⟨m, hm, rfl⟩, rfl⟩, hx⟩ := hc
      rcases List.mem_append.1 hx with hx | hx
      · exact .inr (by simpa using hx)
      · exact .inl (hexS_hex m (hlt m (by simp [hm])) c hx)
theorem text_hex (l : List Nat) (hlt : ∀ n ∈ l, n < 65536) : ∀ c ∈ (textV6B l).data.toList, IsHex c ∨ c = 58 := by
  intro c hc
  unfold textV6B at hc
  split at hc
  · right; simpa using hc
  · split at hc
    · exact join_hex l hlt c hc
    · simp only [List.mem_append] at hc
      rcases hc with (hc | hc) | hc
      · exact join_hex _ (fun n hn => hlt n (List.mem_of_mem_take hn)) c hc
      · right; simpa using hc
      · exact join_hex _ (fun n hn => hlt n (List.mem_of_mem_drop hn)) c hc
theorem text_byte (l : List Nat) (hlt : ∀ n ∈ l, n < 65536) (i : Nat) (hi : i < (textV6B l).size) : ¬ (65 ≤ ((textV6B l)[i]).toNat ∧ ((textV6B l)[i]).toNat ≤ 90) ∧ ((textV6B l)[i]).toNat ≠ 46 := by
  have hm : (textV6B l)[i] ∈ (textV6B l).data.toList := by
    show (textV6B l).data[i] ∈ _
    exact Array.getElem_mem_toList _
  rcases text_hex l hlt _ hm with ⟨d, hd, e⟩ | e
  · rw [e]
    exact ⟨(dig_at d hd).2.2.2.2, fun h => (dig_at d hd).2.2.2.1 (UInt8.toNat_inj.1 h)⟩
  · rw [e]; decide
theorem dotNum_le (p : ByteArray) (v : Nat) (h : dotNum p = some v) : v ≤ 255 := by
  unfold dotNum at h
  split at h
  · split at h
    · rename_i hh
      cases h; omega
    · cases h
  · cases h
theorem dotGo_le : ∀ (ps : List ByteArray) (k : Nat) (vs out : List Nat), dotGo k vs ps = some out → (∀ x ∈ vs, x ≤ 255) → ∀ x ∈ out, x ≤ 255
  | [], k, vs, out, h, hv => by
    rw [dotGo] at h; cases h; exact hv
  | p :: r, k, vs, out, h, hv => by
    rw [dotGo] at h
    cases hd : dotNum p with
    | none => rw [hd] at h; cases h
    | some v =>
      rw [hd] at h
      refine dotGo_le r _ _ out h (fun x hx => ?_)
      rcases List.mem_or_eq_of_mem_set hx with hx | rfl
      · exact hv x hx
      · exact dotNum_le p _ hd
theorem dotB_lt (p : ByteArray) (a b : Nat) (h : dotB p = some (a, b)) : a < 65536 ∧ b < 65536 := by
  unfold dotB at h
  split at h
  · cases hd : dotGo 0 [0, 0, 0, 0] (piecesB p) with
    | none => rw [hd] at h; cases h
    | some vs =>
      rw [hd] at h
      have hle := dotGo_le _ _ _ _ hd (by simp)
      have hg : ∀ i, vs.getD i 0 ≤ 255 := fun i => by
        rw [List.getD_eq_getElem?_getD]
        cases e : vs[i]? with
        | none => simp
        | some x => exact hle x (List.mem_of_getElem? e)
      have h0 := hg 0; have h1 := hg 1; have h2 := hg 2; have h3 := hg 3
      simp only [Option.map_some, Option.some.injEq, Prod.mk.injEq] at h
      omega
  · cases h
theorem hexNum_lt (p : ByteArray) (v : Nat) (h : hexNum p = some v) : v < 65536 := by
  unfold hexNum at h
  split at h
  · rename_i u hu
    split at h
    · cases h
      have := parse16_le _ _ hu; omega
    · cases h
  · cases h
theorem pGo_lt (en : Bool) : ∀ (ps : List ByteArray) (out l : List Nat), pGo en out ps = some l → (∀ n ∈ out, n < 65536) → ∀ n ∈ l, n < 65536
  | [], out, l, h, ho => by rw [pGo] at h; cases h; exact ho
  | p :: r, out, l, h, ho => by
    rw [pGo] at h
    cases hd : (if en = true ∧ r = [] then dotB p else none) with
    | some ab =>
      rw [hd] at h
      obtain ⟨a, b⟩ := ab
      have : dotB p = some (a, b) := by
        split at hd
        · exact hd
        · cases hd
      have := dotB_lt p a b this
      cases h
      intro n hn
      simp only [List.mem_append, List.mem_cons, List.not_mem_nil, or_false] at hn
      rcases hn with hn | rfl | rfl
      · exact ho n hn
      · exact this.1
      · exact this.2
    | none =>
      rw [hd] at h
      simp only [] at h
      cases hx : hexNum p with
      | none => rw [hx] at h; cases h
      | some v =>
        rw [hx] at h
        refine pGo_lt en r _ l h (fun n hn => ?_)
        simp only [List.mem_append, List.mem_cons, List.not_mem_nil, or_false] at hn
        rcases hn with hn | rfl
        · exact ho n hn
        · exact hexNum_lt p _ hx
theorem piecesS_lt (s : ByteArray) (en : Bool) (l : List Nat) (h : piecesS s en = some l) : ∀ n ∈ l, n < 65536 := by
  unfold piecesS at h
  split at h
  · cases h; simp
  · exact pGo_lt en _ _ _ h (by simp)
theorem splice_mem (l a : List Nat) (i x : Nat) (h : x ∈ splice l i a) : x ∈ l ∨ x ∈ a := by
  unfold splice at h
  simp only [List.mem_append] at h
  rcases h with h | h | h
  · exact .inl (List.mem_of_mem_take h)
  · exact .inr h
  · exact .inl (List.mem_of_mem_drop h)
theorem v6_lt (s : ByteArray) (l : List Nat) (h : v6B s = some l) : l.length = 8 ∧ ∀ n ∈ l, n < 65536 := by
  unfold v6B at h
  have hng := behind_nogap s
  cases ha : piecesS (aheadB s) (!gapB s) with
  | none => rw [ha] at h; cases h
  | some a =>
    cases hb : piecesS (behindB s) true with
    | none => rw [ha, hb] at h; cases h
    | some b =>
      rw [ha, hb] at h
      simp only [] at h
      split at h
      · cases h
      · rename_i hn
        cases h
        have hlen : a.length + b.length ≤ 8 := by
          cases hg : gapB s with
          | true => rw [hg] at hn; simp at hn; omega
          | false =>
            have := hng hg
            rw [hb] at this
            cases this
            rw [hg] at hn; simp at hn; simp [hn]
        constructor
        · simp [splice]; omega
        · intro n hn
          rcases splice_mem _ _ _ _ hn with hn | hn
          · rcases splice_mem _ _ _ _ hn with hn | hn
            · have := List.eq_of_mem_replicate hn; omega
            · exact piecesS_lt _ _ _ ha n hn
          · exact piecesS_lt _ _ _ hb n hn
end Go.Proofs.YthdepnahbhheoaaDoor
