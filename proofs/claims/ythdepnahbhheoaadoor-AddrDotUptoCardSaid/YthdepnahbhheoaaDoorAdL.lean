/- addr.dotted -/
import Derived.Test.YthdepnahbhheoaaDoorAdK
import Derived.Test.YthdepnahbhheoaaDoorAdG
import Derived.Test.YthdepnahbhheoaaDoorAdI
namespace Go.Proofs.YthdepnahbhheoaaDoor
open Go.RowKit

def AtoiPost : Lib.NumEnd Int → Ending → Prop
  | .ok v, e => e = .returned (.tuple #[.int .i64 v, .nilIface])
  | _, e => ∃ n N, e = .returned (.tuple #[.int .i64 n, .iface 92 (.pointer (some ⟨N, 0, none⟩))])
theorem atoi_c (s : ByteArray) (hs : s.size ≤ 4294967296) (w : World) (ok : Ok w) :
    Calls Tryd.prog 45 #[.string s] w fun e w' => AtoiPost (Lib.atoiAll s.data.toList) e ∧ Below w.heap.size w w' := by
  cases h : Lib.atoiAll s.data.toList with
  | ok v =>
    refine (Tryd.strconv_Atoi_ok s (by omega) v h w).mono fun e w' ⟨a, b⟩ => ⟨a, ?_⟩
    rcases b with rfl | ⟨t, rfl⟩
    · exact Below.refl _ _
    · exact Lib.bytesWorld_below _ _ _
  | range =>
    obtain ⟨ev, h1, h2⟩ := ok.errR
    exact (Tryd.strconv_Atoi_range s (by omega) h ev w h1 h2).mono fun e w' ⟨N, a, _, _, b⟩ => ⟨⟨_, N, a⟩, b⟩

  | _ =>
    obtain ⟨ev, h1, h2⟩ := ok.errS
    exact (Tryd.strconv_Atoi_syntax s (by omega) h ev w h1 h2).mono fun e w' ⟨N, a, _, _, b⟩ => ⟨⟨_, N, a⟩, b⟩
/-- A number from 0 to 255 without needless noughts. -/
def dotNum (p : ByteArray) : Option Nat :=
  match Lib.atoiAll p.data.toList with
  | .ok v => if itoaB v = p ∧ 0 ≤ v ∧ v ≤ 255 then some v.toNat else none
  | _ => none
def dotGo : Nat → List Nat → List ByteArray → Option (List Nat)
  | _, vs, [] => some vs
  | k, vs, p :: r => match dotNum p with
    | some v => dotGo (k + 1) (vs.set k v) r
    | none => none
/-- The two pieces that four decimal numbers are. -/
def dotB (s : ByteArray) : Option (Nat × Nat) :=
  if (piecesB s).length = 4 then (dotGo 0 [0, 0, 0, 0] (piecesB s)).map fun vs => (256 * vs.getD 0 0 + vs.getD 1 0, 256 * vs.getD 2 0 + vs.getD 3 0) else none
theorem split_c (s : ByteArray) (w : World) (ok : Ok w) (hs : s.size < 4294967281) :
    Calls Tryd.prog 29 #[.string s, .string sdot] w fun e w' =>
      e = .returned (.slice (some ⟨w.heap.size, 0, none⟩) (piecesB s).length (piecesB s).length) ∧ Strs w' w.heap.size (piecesB s) ∧ Below w.heap.size w w' := by
  obtain ⟨m, hm⟩ := ok.maxLen
  have hl := piecesB_length s
  refine (Tryd.strings_Split s sdot m w hs hm (by decide)).mono fun e w' ⟨a, b⟩ => ⟨?_, ?_, ?_⟩
  · rw [a, hl]
  · subst b
    refine Strs.of fun j hj => ?_
    refine (cellN w ((piecesB s).map Value.string) 9 j (by simpa using hj)).trans ?_
    simp
  · subst b; exact (Below.refl _ _).alloc (Nat.le_refl _) _

set_option maxHeartbeats 1000000 in
theorem dotted_len (s : ByteArray) (hs : s.size < 4294967281) (h4 : (piecesB s).length ≠ 4) (w : World) (ok : Ok w) :
    Calls Tryd.prog 34 #[.string s] w fun e w' => e = .returned (.tuple #[.slice none 0 0, .bool false]) ∧ Below w.heap.size w w' := by
  have hP := split_c s w ok hs
  generalize hps : (piecesB s).length = n at *
  have h4' : (((n : Int)) == 4) = false := by rw [beq_eq_false_iff_ne]; omega
  have h5' : (((n : Int)) != 4) = true := by rw [bne_iff_ne]; omega
  clear ok h4 hps
  go_enter Tryd.func34, Tryd.ntmps34
  go_wp2_with fail
  refine hP.mono ?_
  rintro e w1 ⟨rfl, hS, hb⟩
  clear hP hS
  go_wp2_with fail
  go_ret2
  exact ⟨rfl, hb.alloc hb.size _⟩
-- BEGIN
theorem eqB {x y : ByteArray} (h : y.toList = x.toList) : y = x := by
  rw [Lib.toList_data, Lib.toList_data] at h
  cases x; cases y; simp at h; rw [h]
theorem Strs.setCell {w : World} {b : Nat} {l : List ByteArray} (h : Strs w b l) {c : Nat} (hc : b ≠ c) (k : Nat) (v : Value) : Strs (w.setCell ⟨c, k, none⟩ v) b l := fun j x hj =>
  (World.cell?_setCell_other _ _ _ _ (fun e => hc (by injection e with e1; exact e1.symm))).trans (h j x hj)
theorem or_u16 (a b : Nat) (ha : a ≤ 255) (hb : b ≤ 255) : bits .or .u16 ((a : Int) * 256) (b : Int) = ((256 * a + b : Nat) : Int) := by
  have hk : ∀ n : Int, 0 ≤ n → n < 2 ^ 16 → IntKind.u16.wrap n = n := fun n h0 h1 => by simp [IntKind.wrap, IntKind.bits, IntKind.signed]; omega
  rw [bits_join .u16 16 (by decide) hk 8 _ _ (by omega) (by omega) (by omega) (by omega) (by omega) (by omega)]
  omega
def u16s (vs : List Nat) : List Value := vs.map fun (v : Nat) => Value.int .u16 (v : Int)
/-- What a text that stands between two full stops is to the walk. -/
def DotPost (r : Option (Nat × Nat)) (w : World) (e : Ending) (w' : World) : Prop :=
  (match r with
    | some ab => ∃ b, e = .returned (.tuple #[.slice (some ⟨b, 0, none⟩) 2 2, .bool true]) ∧ Arr w' b (u16s [ab.1, ab.2]) ∧ w.heap.size ≤ b
    | none => e = .returned (.tuple #[.slice none 0 0, .bool false])) ∧ Below w.heap.size w w'

set_option maxHeartbeats 4000000 in
set_option maxRecDepth 100000 in
theorem dotted_4 (s : ByteArray) (hs : s.size < 4294967281) (h4 : (piecesB s).length = 4) (w : World) (ok : Ok w) :
    Calls Tryd.prog 34 #[.string s] w (DotPost ((dotGo 0 [0, 0, 0, 0] (piecesB s)).map fun vs => (256 * vs.getD 0 0 + vs.getD 1 0, 256 * vs.getD 2 0 + vs.getD 3 0)) w) := by
  have hP := split_c s w ok hs
  have hN : ∀ x ∈ piecesB s, ∀ w1, Below w.heap.size w w1 → Calls Tryd.prog 45 #[.string x] w1 fun e w' => AtoiPost (Lib.atoiAll x.data.toList) e ∧ Below w1.heap.size w1 w' :=
    fun x hx w1 hb => atoi_c x (by have := piecesB_sub s x hx; omega) w1 (ok.below hb)
  have hI : ∀ v w1, -9223372036854775808 ≤ v → v ≤ 9223372036854775807 → Below w.heap.size w w1 → Calls Tryd.prog 15 #[.int .i64 v] w1 fun e w' => e = .returned (.string (itoaB v)) ∧ Below w1.heap.size w1 w' :=
    fun v w1 h0 h1 hb => itoa_c v h0 h1 w1 (ok.below hb)
  generalize piecesB s = ps at *
  obtain ⟨D, hD⟩ : ∃ D, D = dotGo 0 [0, 0, 0, 0] ps := ⟨_, rfl⟩
  obtain ⟨R, hR⟩ : ∃ R, R = D.map fun vs => (256 * vs.getD 0 0 + vs.getD 1 0, 256 * vs.getD 2 0 + vs.getD 3 0) := ⟨_, rfl⟩
  rw [← hD, ← hR]
  have HR := Lib.hid hR
  have HD := Lib.hid hD
  have HL := Lib.hid h4
  have HN := Lib.hid hN
  have hI' : ∀ v w1, -9223372036854775808 ≤ v → v ≤ 9223372036854775807 → Below w.heap.size w w1 → Calls Tryd.prog 15 #[.int .i64 v] w1 fun e w' => e = .returned (.string (itoaB v)) ∧ Below w1.heap.size w1 w' := hI
  rw [h4] at hP
  clear ok hR hD h4 hN hI
  go_enter Tryd.func34, Tryd.ntmps34
  go_wp2_with fail
  refine hP.mono ?_
  rintro e w1 ⟨rfl, hS, hb⟩
  clear hP
  have HS := Lib.hid hS
  clear hS
  have hzl : w.heap.size < w1.heap.size := by
    obtain ⟨x0, hx0⟩ : ∃ x0, ps[0]? = some x0 := ⟨_, List.getElem?_eq_getElem (by rw [HL.out]; decide)⟩
    exact World.block_lt_of_cell? w1 _ (HS.out 0 x0 hx0)
  have hz := hb.size
  have hA0 : Arr (w1.alloc (.cells (u16s [0, 0, 0, 0]).toArray 79)) w1.heap.size (u16s [0, 0, 0, 0]) := Arr.new _ _ _
  go_wp2_with fail
  go_loopw [17] (fun v17 wr => ∃ (k : Nat) (vs : List Nat), v17 = .int .i64 k ∧ k ≤ 4 ∧ Hid (vs.length = 4 ∧ (∀ x ∈ vs, x ≤ 255) ∧ D = dotGo k vs (ps.drop k)) ∧ Below w.heap.size w wr ∧ Hid (Strs wr w.heap.size ps) ∧ Hid (Arr wr w1.heap.size (u16s vs))) (fun v17 _ => 4 - (intOf v17).toNat)
  case atStart =>
    refine ⟨0, [0, 0, 0, 0], rfl, by omega, Lib.hid ⟨rfl, by simp, HD.out⟩, hb.alloc hz _, Lib.hid ?_, Lib.hid hA0⟩
    exact HS.out.below ((Below.refl _ _).alloc (Nat.le_refl _) _)
  case round =>
    obtain ⟨k, vs, rfl, hk, hh, hbr, hSr, hAr⟩ := hrel
    by_cases hlt : k < 4
    · obtain ⟨hvl, hv255, hdec⟩ := hh.out
      obtain ⟨x, hx⟩ : ∃ x, ps[k]? = some x := ⟨_, List.getElem?_eq_getElem (by rw [HL.out]; exact hlt)⟩
      have hdrop : ps.drop k = x :: ps.drop (k + 1) := Lib.drop_at hx
      have hcell := hSr.out k x hx
      have hNx := HN.out x (List.mem_of_getElem? hx) wr hbr
      rw [hdrop, dotGo] at hdec
      have hS2 : ∀ w', Below wr.heap.size wr w' → Hid (Strs w' w.heap.size ps) := fun w' h => Lib.hid (hSr.out.below h)
      have hB2 : ∀ w', Below wr.heap.size wr w' → Below w.heap.size w w' := fun w' h => belowT hbr h
      have hlk : k < vs.length := by omega
      have hA2 : ∀ w', Below wr.heap.size wr w' → (w'.cell? ⟨w1.heap.size, k, none⟩ = some (.int .u16 (vs[k] : Nat)) ∧ w'.frozen? ⟨w1.heap.size, k, none⟩ = false) := fun w' h =>
        (hAr.out.below h) k _ (by simp [u16s, hlk])
      have hA3 : ∀ w' (v : Nat), Below wr.heap.size wr w' → Hid (Arr (w'.setCell ⟨w1.heap.size, k, none⟩ (.int .u16 (v : Int))) w1.heap.size (u16s (vs.set k v))) := fun w' v h => Lib.hid (by
        have := (hAr.out.below h).set k (.int .u16 (v : Int))
        unfold u16s at this ⊢; rwa [List.map_set])
      have HVL := Lib.hid hvl
      have HV255 := Lib.hid hv255
      clear hdrop hx hh hvl hv255 hSr
      unfold dotNum at hdec
      generalize vs[k] = vk at *
      cases hat : Lib.atoiAll x.data.toList with
      | ok v =>
        rw [hat] at hNx hdec
        obtain ⟨hv0, hv1⟩ := Lib.atoiAll_bounds hat
        simp only [AtoiPost] at hNx hdec
        have hIx := fun w' h => hI' v w' hv0 hv1 h
        clear hat
        have HDEC := Lib.hid hdec
        clear hdec
        generalize itoaB v = y at *
        go_wp2_with (first | (go_at_call 45; refine hNx.mono ?_; rintro e w2 ⟨rfl, hb2⟩) | (go_at_call 15; refine (hIx _ (hB2 _ hb2)).mono ?_; rintro e w3 ⟨rfl, hb3⟩; obtain ⟨hcc, hff⟩ := hA2 _ (belowT hb2 hb3)))
        · have hno : ¬ (y = x ∧ 0 ≤ v ∧ v ≤ 255) := by omega
          obtain rfl : R = none := by rw [HR.out, HDEC.out, if_neg hno]; rfl
          go_ret2
          exact ⟨rfl, hB2 _ (belowT hb2 hb3)⟩
        · have hyx : y = x := eqB (by assumption)
          have hyes : y = x ∧ 0 ≤ v ∧ v ≤ 255 := ⟨hyx, by omega⟩
          obtain ⟨m, rfl⟩ := Int.eq_ofNat_of_zero_le hyes.2.1
          have hm : m ≤ 255 := by omega
          refine ⟨⟨k + 1, vs.set k m, by go_num, by omega, Lib.hid ⟨by simp [HVL.out], fun z hz => ?_, ?_⟩, (hB2 _ (belowT hb2 hb3)).setCell (by show w.heap.size ≤ w1.heap.size; omega) _, Lib.hid ((hS2 _ (belowT hb2 hb3)).out.setCell (by omega) _ _), hA3 _ _ (belowT hb2 hb3)⟩, by simp [intOf]; omega⟩
          · rcases List.mem_or_eq_of_mem_set hz with h | h
            · exact HV255.out z h
            · omega
          · rw [HDEC.out, if_pos hyes]; simp
        · have hno : ¬ (y = x ∧ 0 ≤ v ∧ v ≤ 255) := by omega
          obtain rfl : R = none := by rw [HR.out, HDEC.out, if_neg hno]; rfl
          go_ret2
          exact ⟨rfl, hB2 _ (belowT hb2 hb3)⟩
        · have hne : ¬ y.toList = x.toList := by assumption
          have hno : ¬ (y = x ∧ 0 ≤ v ∧ v ≤ 255) := fun h => hne (by rw [h.1])
          obtain rfl : R = none := by rw [HR.out, HDEC.out, if_neg hno]; rfl
          go_ret2
          exact ⟨rfl, hB2 _ (belowT hb2 hb3)⟩
      | range =>
        rw [hat] at hNx hdec
        simp only [AtoiPost] at hNx hdec
        have HD2 := Lib.hid hdec
        clear hat hdec hA2 hA3
        go_wp2_with (go_at_call 45; refine hNx.mono ?_; rintro e w2 ⟨⟨n, N, rfl⟩, hb2⟩)
        obtain rfl : R = none := by rw [HR.out, HD2.out]; rfl
        go_ret2
        exact ⟨rfl, hB2 _ hb2⟩
      | _ =>
        rw [hat] at hNx hdec
        simp only [AtoiPost] at hNx hdec
        have HD2 := Lib.hid hdec
        clear hat hdec hA2 hA3
        go_wp2_with (go_at_call 45; refine hNx.mono ?_; rintro e w2 ⟨⟨n, N, rfl⟩, hb2⟩)
        obtain rfl : R = none := by rw [HR.out, HD2.out]; rfl
        go_ret2
        exact ⟨rfl, hB2 _ hb2⟩
    · obtain ⟨hvl, hv255, hdec⟩ := hh.out
      obtain rfl : k = 4 := by omega
      have hD' : D = some vs := by rw [hdec, List.drop_eq_nil_of_le (by rw [HL.out]; decide)]; rfl
      obtain ⟨a, b, c, d, rfl⟩ : ∃ a b c d, vs = [a, b, c, d] := by
        match vs, hvl with
        | [a, b, c, d], _ => exact ⟨a, b, c, d, rfl⟩
      have ha : a ≤ 255 := hv255 a (by simp)
      have hb' : b ≤ 255 := hv255 b (by simp)
      have hc : c ≤ 255 := hv255 c (by simp)
      have hd : d ≤ 255 := hv255 d (by simp)
      have c0 := (hAr.out 0 _ rfl).1
      have c1 := (hAr.out 1 _ rfl).1
      have c2 := (hAr.out 2 _ rfl).1
      have c3 := (hAr.out 3 _ rfl).1
      have o1 := or_u16 a b ha hb'
      have o2 := or_u16 c d hc hd
      obtain rfl : R = some (256 * a + b, 256 * c + d) := by rw [HR.out, hD']; rfl
      generalize 256 * a + b = e1 at *
      generalize 256 * c + d = e2 at *
      clear hdec hD' hh hv255 hvl hAr hSr
      go_wp2_with fail
      go_ret2
      exact ⟨⟨_, rfl, Arr.new _ _ _, hbr.size⟩, hbr.alloc hbr.size _⟩
theorem dotted_c (s : ByteArray) (hs : s.size < 4294967281) (w : World) (ok : Ok w) :
    Calls Tryd.prog 34 #[.string s] w (DotPost (dotB s) w) := by
  unfold dotB
  by_cases h4 : (piecesB s).length = 4
  · rw [if_pos h4]; exact dotted_4 s hs h4 w ok
  · rw [if_neg h4]; exact (dotted_len s hs h4 w ok).mono fun e w' ⟨a, b⟩ => ⟨a, b⟩
end Go.Proofs.YthdepnahbhheoaaDoor
