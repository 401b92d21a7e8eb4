/- addr.pieces -/
import Derived.Test.YthdepnahbhheoaaDoorAdL
import Derived.Test.YthdepnahbhheoaaDoorAdJ
namespace Go.Proofs.YthdepnahbhheoaaDoor
open Go.RowKit

abbrev scol : ByteArray := ⟨#[58]⟩
def colsB (s : ByteArray) : List ByteArray := Lib.splitB scol 0 (Lib.countB s scol) s
theorem colsB_length (s : ByteArray) : (colsB s).length = Lib.countB s scol + 1 := Lib.splitB_all scol (by decide) 0 _ s rfl
theorem colsB_le (s : ByteArray) : (colsB s).length ≤ s.size + 1 := by
  have := colsB_length s
  have h2 : Lib.countB s scol ≤ s.size := Lib.countB_le scol (by decide) s.size s (Nat.le_refl _)
  omega
theorem colsB_sub (s p : ByteArray) (h : p ∈ colsB s) : p.size ≤ s.size := splitB_sub _ _ _ _ _ h
theorem splitc_c (s : ByteArray) (w : World) (ok : Ok w) (hs : s.size < 4294967281) :
    Calls Tryd.prog 29 #[.string s, .string scol] w fun e w' =>
      e = .returned (.slice (some ⟨w.heap.size, 0, none⟩) (colsB s).length (colsB s).length) ∧ Strs w' w.heap.size (colsB s) ∧ Below w.heap.size w w' := by
  obtain ⟨m, hm⟩ := ok.maxLen
  have hl := colsB_length s
  refine (Tryd.strings_Split s scol m w hs hm (by decide)).mono fun e w' ⟨a, b⟩ => ⟨?_, ?_, ?_⟩
  · rw [a, hl]
  · subst b
    refine Strs.of fun j hj => ?_
    refine (cellN w ((colsB s).map Value.string) 9 j (by simpa using hj)).trans ?_
    simp
  · subst b; exact (Below.refl _ _).alloc (Nat.le_refl _) _

theorem u16s_length (l : List Nat) : (u16s l).length = l.length := by simp [u16s]
/-- A piece of one to four hexadecimal digits. -/
def hexNum (p : ByteArray) : Option Nat := match parseUS 16 65535 p.data.toList with
  | .ok v => if p.size ≤ 4 ∧ allB [kDec, kLet] p = true then some v else none
  | _ => none
/-- The pieces of a text; the last one may be dotted. -/
def pGo (en : Bool) (out : List Nat) : List ByteArray → Option (List Nat)
  | [] => some out
  | p :: r => match (if en = true ∧ r = [] then dotB p else none) with
    | some ab => some (out ++ [ab.1, ab.2])
    | none => match hexNum p with
      | some v => pGo en (out ++ [v]) r
      | none => none
def piecesS (s : ByteArray) (en : Bool) : Option (List Nat) := if s.size = 0 then some [] else pGo en [] (colsB s)
def PiecePost (r : Option (List Nat)) (w : World) (e : Ending) (w' : World) : Prop :=
  (match r with
    | some l => ∃ v, e = .returned (.tuple #[v, .bool true]) ∧ w'.ownsRow w.heap.size 28 1 v l.length (u16s l)
    | none => e = .returned (.tuple #[.slice none 0 0, .bool false])) ∧ Below w.heap.size w w'
theorem parse16_le (l : List UInt8) (v : Nat) (h : parseUS 16 65535 l = .ok v) : v ≤ 65535 := by
  unfold parseUS at h
  split at h
  · cases h
  · exact parseU_le _ _ _ _ _ (by omega) h

set_option maxHeartbeats 4000000 in
set_option maxRecDepth 100000 in
theorem pieces_go (s : ByteArray) (en : Bool) (hs : s.size < 4294967281) (h0 : s.size ≠ 0) (w : World) (ok : Ok w) :
    Calls Tryd.prog 20 #[.string s, .bool en] w (PiecePost (pGo en [] (colsB s)) w) := by
  have hemp : s.toList.isEmpty = false := by
    rw [← decide_eq_emptyBytes]
    exact decide_eq_false (fun h => h0 (by rw [h]; rfl))
  have hP := splitc_c s w ok hs
  have hD : ∀ x ∈ colsB s, ∀ w1, Below w.heap.size w w1 → Calls Tryd.prog 34 #[.string x] w1 (DotPost (dotB x) w1) :=
    fun x hx w1 hb => dotted_c x (by have := colsB_sub s x hx; omega) w1 (ok.below hb)
  have hU : ∀ x ∈ colsB s, ∀ w1, Below w.heap.size w w1 → Calls Tryd.prog 32 #[.string x, .int .i64 16, .int .i64 16] w1 fun e w' => PuPost (parseUS 16 65535 x.data.toList) e ∧ Below w1.heap.size w1 w' :=
    fun x hx w1 hb => pu_16_16 x (by have := colsB_sub s x hx; omega) w1 (ok.below hb)
  have hA : ∀ x ∈ colsB s, ∀ w1, Calls Tryd.prog 21 #[.string x, .slice (some ⟨w1.heap.size, 0, none⟩) 2 2] (w1.alloc (.cells #[fDec, fLet] 52)) fun e w' => e = .returned (.bool (allB [kDec, kLet] x)) ∧ Below w1.heap.size w1 w' :=
    fun x hx w1 => all2 kDec kLet kDec_ok kLet_ok x (by have := colsB_sub s x hx; omega) w1 fDec fLet rfl rfl _
  have hl := colsB_le s
  have hsub := colsB_sub s
  generalize colsB s = ps at *
  obtain ⟨R, hR⟩ : ∃ R, R = pGo en [] ps := ⟨_, rfl⟩
  rw [← hR]
  obtain ⟨n, hn⟩ : ∃ n, n = ps.length := ⟨_, rfl⟩
  rw [← hn] at hP hl
  have HR := Lib.hid hR
  have HN := Lib.hid hn
  have HD := Lib.hid hD
  have HU := Lib.hid hU
  have HA := Lib.hid hA
  have HSUB := Lib.hid hsub
  have HI : Hid ((Tryd.prog.info? 28).map (fun i => (i.zero, i.size, i.bytes)) = some (some (.int .u16 0), 1, 2)) := Lib.hid (by kernel_rfl)
  clear ok hR hn hD hU hA hsub h0
  go_enter Tryd.func20, Tryd.ntmps20
  go_wp2_with fail
  refine hP.mono ?_
  rintro e w1 ⟨rfl, hS, hb⟩
  clear hP
  have HS := Lib.hid hS
  clear hS
  go_wp2_with fail
  go_loopw [6, 20] (fun v6 v20 wr => ∃ (k : Nat) (out : List Nat), v20 = .int .i64 k ∧ k ≤ n ∧ out.length = k ∧ wr.ownsRow w1.heap.size 28 1 v6 k (u16s out) ∧ Hid (R = pGo en out (ps.drop k)) ∧ Below w1.heap.size w1 wr) (fun _ v20 _ => n - (intOf v20).toNat)
  case atStart => exact ⟨0, [], rfl, by omega, rfl, World.ownsRow_nil _ _ _ _, HR, Below.refl _ _⟩
  case round =>
    obtain ⟨k, out, rfl, hk, hol, hown, hdec, hb1⟩ := hrel
    have hb1r := belowT hb hb1
    have hzr := hb1.size
    by_cases hlt : k < n
    · obtain ⟨x, hx⟩ : ∃ x, ps[k]? = some x := ⟨_, List.getElem?_eq_getElem (by rw [← HN.out]; exact hlt)⟩
      have hdrop : ps.drop k = x :: ps.drop (k + 1) := Lib.drop_at hx
      have hmem := List.mem_of_getElem? hx
      have hcell := (HS.out.below hb1) k x hx
      have hDx := HD.out x hmem wr hb1r
      have hUx := HU.out x hmem
      have hAx := HA.out x hmem
      have hdec' := hdec.out
      rw [hdrop] at hdec'
      have hlast : ps.drop (k + 1) = [] ↔ k + 1 = n := by
        rw [List.drop_eq_nil_iff, ← HN.out]; omega
      have hxs : x.size ≤ s.size := HSUB.out x hmem
      clear hdrop hx hdec hmem
      by_cases hen : en = true ∧ k + 1 = n
      · obtain ⟨rfl, hkn⟩ := hen
        have hkb : ((k : Int) == (n : Int) - 1) = true := by rw [beq_iff_eq]; omega
        cases hdb : dotB x with
        | some ab =>
          rw [hdb] at hDx
          have hRn : R = some (out ++ [ab.1, ab.2]) := by
            rw [hdec', pGo, if_pos ⟨rfl, hlast.2 hkn⟩, hdb]
          have HRN := Lib.hid hRn
          unfold DotPost at hDx
          simp only at hDx
          clear hdec' hRn hUx hAx hlast hdb hkn
          go_wp2_with (first | (go_at_call 34; refine hDx.mono ?_; rintro e w2 ⟨⟨g, rfl, hArr, hg⟩, hb2⟩) | (at_builtin; refine appendN (w0 := w1) w1.heap.size rfl _ _ 48 28 (.int .u16 0) 2 rfl Tryd.underlying48 HI.out rfl (by decide) _ (u16s out) (u16s [ab.1, ab.2]) rfl g 2 rfl (fun j u hj => (hArr j u hj).1) (by simp [u16s, Value.oneCell']) (by rw [u16s_length, hol]; exact own_below hown hb2) (belowT hb1 hb2) (belowT hb1 hb2).size (by rw [u16s_length, hol, u16s_length]; simp; omega) ?_; intro v1 w5 hown5 hb5 hg5 hz5))
          go_ret2
          obtain rfl := HRN.out
          refine ⟨⟨_, rfl, ?_⟩, belowT hb hb5⟩
          have := own_mono hown5 hb.size
          simpa [u16s] using this
        | none =>
          rw [hdb] at hDx
          have hDx := hDx.mono (fun e w' ⟨a, b⟩ => (⟨⟨_, a⟩, b⟩ : (∃ sv, e = Ending.returned (.tuple #[sv, .bool false])) ∧ Below wr.heap.size wr w'))
          rw [pGo, if_pos ⟨rfl, hlast.2 hkn⟩, hdb] at hdec'
          simp only at hdec'
          clear hkn hlast hdb
          simp only [hexNum] at hdec'
          cases hpu : parseUS 16 65535 x.data.toList with
          | ok v =>
            have hv := parse16_le _ _ hpu
            rw [hpu] at hUx hdec'
            simp only [PuPost] at hUx
            simp only at hdec'
            by_cases h4 : x.size ≤ 4
            · cases hall : allB [kDec, kLet] x
              · have hRn : R = none := by rw [hdec', hall, if_neg (by simp)]
                rw [hall] at hAx
                have HRN := Lib.hid hRn
                clear hdec' hRn hpu hall
                go_wp2_with (first | (go_at_call 34; refine hDx.mono ?_; rintro e w2 ⟨⟨sv, rfl⟩, hb2⟩) | (go_at_call 32; refine (hUx _ (belowT hb1r hb2)).mono ?_; rintro e w3 ⟨rfl, hb3⟩) | (go_at_call 21; refine (hAx _).mono ?_; rintro e w4 ⟨rfl, hb4⟩))
                go_ret2
                obtain rfl := HRN.out
                exact ⟨rfl, belowT hb (belowT hb1 (belowT hb2 (belowT hb3 hb4)))⟩
              · have hRn := hdec'
                rw [hall, if_pos ⟨h4, rfl⟩] at hRn
                simp only at hRn
                rw [hall] at hAx
                have HRN := Lib.hid hRn
                clear hdec' hRn hpu hall
                go_wp2_with (first | (go_at_call 34; refine hDx.mono ?_; rintro e w2 ⟨⟨sv, rfl⟩, hb2⟩) | (go_at_call 32; refine (hUx _ (belowT hb1r hb2)).mono ?_; rintro e w3 ⟨rfl, hb3⟩) | (go_at_call 21; refine (hAx _).mono ?_; rintro e w4 ⟨rfl, hb4⟩) | (at_builtin; refine append1 (w0 := w1) w1.heap.size rfl _ _ 48 28 (.int .u16 0) 2 rfl Tryd.underlying48 HI.out rfl (by decide) _ (u16s out) (.int .u16 (v : Int)) rfl rfl rfl (by rw [u16s_length, hol]; exact own_below hown (belowT hb2 (belowT hb3 hb4))) (belowT hb1 (belowT hb2 (belowT hb3 hb4))) (belowT hb1 (belowT hb2 (belowT hb3 hb4))).size (by rw [u16s_length, hol]; omega) ?_; intro v1 w5 hown5 hb5 hg5 hz5))
                go_roundw
                case rel =>
                  refine ⟨k + 1, out ++ [v], by go_num, by omega, by simp [hol], ?_, HRN, hb5⟩
                  simpa [u16s, hol] using hown5
                case measure => simp [intOf]; omega
            · have hRn : R = none := by rw [hdec', if_neg (by omega)]
              have HRN := Lib.hid hRn
              have h4' : 4 < x.size := by omega
              clear hdec' hRn hpu h4
              go_wp2_with (first | (go_at_call 34; refine hDx.mono ?_; rintro e w2 ⟨⟨sv, rfl⟩, hb2⟩) | (go_at_call 32; refine (hUx _ (belowT hb1r hb2)).mono ?_; rintro e w3 ⟨rfl, hb3⟩))
              go_ret2
              obtain rfl := HRN.out
              exact ⟨rfl, belowT hb (belowT hb1 (belowT hb2 hb3))⟩
          | range =>
            rw [hpu] at hUx hdec'
            simp only [PuPost] at hUx
            simp only at hdec'
            have HRN := Lib.hid hdec'
            clear hdec' hpu
            go_wp2_with (first | (go_at_call 34; refine hDx.mono ?_; rintro e w2 ⟨⟨sv, rfl⟩, hb2⟩) | (go_at_call 32; refine (hUx _ (belowT hb1r hb2)).mono ?_; rintro e w3 ⟨⟨m, N, rfl⟩, hb3⟩))
            go_ret2
            obtain rfl := HRN.out
            exact ⟨rfl, belowT hb (belowT hb1 (belowT hb2 hb3))⟩
          | _ =>
            rw [hpu] at hUx hdec'
            simp only [PuPost] at hUx
            simp only at hdec'
            have HRN := Lib.hid hdec'
            clear hdec' hpu
            go_wp2_with (first | (go_at_call 34; refine hDx.mono ?_; rintro e w2 ⟨⟨sv, rfl⟩, hb2⟩) | (go_at_call 32; refine (hUx _ (belowT hb1r hb2)).mono ?_; rintro e w3 ⟨⟨m, N, rfl⟩, hb3⟩))
            go_ret2
            obtain rfl := HRN.out
            exact ⟨rfl, belowT hb (belowT hb1 (belowT hb2 hb3))⟩
      · have hkb : en = true → ((k : Int) == (n : Int) - 1) = false := fun h => by
          rw [beq_eq_false_iff_ne]; intro h'; exact hen ⟨h, by omega⟩
        have hDx : Calls Tryd.prog 34 #[.string x] wr fun e w' => (∃ sv, e = Ending.returned (.tuple #[sv, .bool (dotB x).isSome])) ∧ Below wr.heap.size wr w' :=
          hDx.mono fun e w' h => by
            cases hdb : dotB x with
            | some ab => rw [hdb] at h; obtain ⟨⟨g, a, _⟩, b⟩ := h; exact ⟨⟨_, a⟩, b⟩
            | none => rw [hdb] at h; obtain ⟨a, b⟩ := h; exact ⟨⟨_, a⟩, b⟩
        rw [pGo, if_neg (fun h => hen ⟨h.1, hlast.1 h.2⟩)] at hdec'
        simp only at hdec'
        generalize (dotB x).isSome = db at *
        clear hen hlast
        have hcase : db = false ∨ (db = true ∧ en = false) ∨ (db = true ∧ en = true) := by cases db <;> cases en <;> simp
        rcases hcase with rfl | ⟨rfl, rfl⟩ | ⟨rfl, rfl⟩
        · clear hkb
          simp only [hexNum] at hdec'
          cases hpu : parseUS 16 65535 x.data.toList with
          | ok v =>
            have hv := parse16_le _ _ hpu
            rw [hpu] at hUx hdec'
            simp only [PuPost] at hUx
            simp only at hdec'
            by_cases h4 : x.size ≤ 4
            · cases hall : allB [kDec, kLet] x
              · have hRn : R = none := by rw [hdec', hall, if_neg (by simp)]
                rw [hall] at hAx
                have HRN := Lib.hid hRn
                clear hdec' hRn hpu hall
                go_wp2_with (first | (go_at_call 34; refine hDx.mono ?_; rintro e w2 ⟨⟨sv, rfl⟩, hb2⟩) | (go_at_call 32; refine (hUx _ (belowT hb1r hb2)).mono ?_; rintro e w3 ⟨rfl, hb3⟩) | (go_at_call 21; refine (hAx _).mono ?_; rintro e w4 ⟨rfl, hb4⟩))
                go_ret2
                obtain rfl := HRN.out
                exact ⟨rfl, belowT hb (belowT hb1 (belowT hb2 (belowT hb3 hb4)))⟩
              · have hRn := hdec'
                rw [hall, if_pos ⟨h4, rfl⟩] at hRn
                simp only at hRn
                rw [hall] at hAx
                have HRN := Lib.hid hRn
                clear hdec' hRn hpu hall
                go_wp2_with (first | (go_at_call 34; refine hDx.mono ?_; rintro e w2 ⟨⟨sv, rfl⟩, hb2⟩) | (go_at_call 32; refine (hUx _ (belowT hb1r hb2)).mono ?_; rintro e w3 ⟨rfl, hb3⟩) | (go_at_call 21; refine (hAx _).mono ?_; rintro e w4 ⟨rfl, hb4⟩) | (at_builtin; refine append1 (w0 := w1) w1.heap.size rfl _ _ 48 28 (.int .u16 0) 2 rfl Tryd.underlying48 HI.out rfl (by decide) _ (u16s out) (.int .u16 (v : Int)) rfl rfl rfl (by rw [u16s_length, hol]; exact own_below hown (belowT hb2 (belowT hb3 hb4))) (belowT hb1 (belowT hb2 (belowT hb3 hb4))) (belowT hb1 (belowT hb2 (belowT hb3 hb4))).size (by rw [u16s_length, hol]; omega) ?_; intro v1 w5 hown5 hb5 hg5 hz5))
                go_roundw
                case rel =>
                  refine ⟨k + 1, out ++ [v], by go_num, by omega, by simp [hol], ?_, HRN, hb5⟩
                  simpa [u16s, hol] using hown5
                case measure => simp [intOf]; omega
            · have hRn : R = none := by rw [hdec', if_neg (by omega)]
              have HRN := Lib.hid hRn
              have h4' : 4 < x.size := by omega
              clear hdec' hRn hpu h4
              go_wp2_with (first | (go_at_call 34; refine hDx.mono ?_; rintro e w2 ⟨⟨sv, rfl⟩, hb2⟩) | (go_at_call 32; refine (hUx _ (belowT hb1r hb2)).mono ?_; rintro e w3 ⟨rfl, hb3⟩))
              go_ret2
              obtain rfl := HRN.out
              exact ⟨rfl, belowT hb (belowT hb1 (belowT hb2 hb3))⟩
          | range =>
            rw [hpu] at hUx hdec'
            simp only [PuPost] at hUx
            simp only at hdec'
            have HRN := Lib.hid hdec'
            clear hdec' hpu
            go_wp2_with (first | (go_at_call 34; refine hDx.mono ?_; rintro e w2 ⟨⟨sv, rfl⟩, hb2⟩) | (go_at_call 32; refine (hUx _ (belowT hb1r hb2)).mono ?_; rintro e w3 ⟨⟨m, N, rfl⟩, hb3⟩))
            go_ret2
            obtain rfl := HRN.out
            exact ⟨rfl, belowT hb (belowT hb1 (belowT hb2 hb3))⟩
          | _ =>
            rw [hpu] at hUx hdec'
            simp only [PuPost] at hUx
            simp only at hdec'
            have HRN := Lib.hid hdec'
            clear hdec' hpu
            go_wp2_with (first | (go_at_call 34; refine hDx.mono ?_; rintro e w2 ⟨⟨sv, rfl⟩, hb2⟩) | (go_at_call 32; refine (hUx _ (belowT hb1r hb2)).mono ?_; rintro e w3 ⟨⟨m, N, rfl⟩, hb3⟩))
            go_ret2
            obtain rfl := HRN.out
            exact ⟨rfl, belowT hb (belowT hb1 (belowT hb2 hb3))⟩
        · clear hkb
          simp only [hexNum] at hdec'
          cases hpu : parseUS 16 65535 x.data.toList with
          | ok v =>
            have hv := parse16_le _ _ hpu
            rw [hpu] at hUx hdec'
            simp only [PuPost] at hUx
            simp only at hdec'
            by_cases h4 : x.size ≤ 4
            · cases hall : allB [kDec, kLet] x
              · have hRn : R = none := by rw [hdec', hall, if_neg (by simp)]
                rw [hall] at hAx
                have HRN := Lib.hid hRn
                clear hdec' hRn hpu hall
                go_wp2_with (first | (go_at_call 34; refine hDx.mono ?_; rintro e w2 ⟨⟨sv, rfl⟩, hb2⟩) | (go_at_call 32; refine (hUx _ (belowT hb1r hb2)).mono ?_; rintro e w3 ⟨rfl, hb3⟩) | (go_at_call 21; refine (hAx _).mono ?_; rintro e w4 ⟨rfl, hb4⟩))
                go_ret2
                obtain rfl := HRN.out
                exact ⟨rfl, belowT hb (belowT hb1 (belowT hb2 (belowT hb3 hb4)))⟩
              · have hRn := hdec'
                rw [hall, if_pos ⟨h4, rfl⟩] at hRn
                simp only at hRn
                rw [hall] at hAx
                have HRN := Lib.hid hRn
                clear hdec' hRn hpu hall
                go_wp2_with (first | (go_at_call 34; refine hDx.mono ?_; rintro e w2 ⟨⟨sv, rfl⟩, hb2⟩) | (go_at_call 32; refine (hUx _ (belowT hb1r hb2)).mono ?_; rintro e w3 ⟨rfl, hb3⟩) | (go_at_call 21; refine (hAx _).mono ?_; rintro e w4 ⟨rfl, hb4⟩) | (at_builtin; refine append1 (w0 := w1) w1.heap.size rfl _ _ 48 28 (.int .u16 0) 2 rfl Tryd.underlying48 HI.out rfl (by decide) _ (u16s out) (.int .u16 (v : Int)) rfl rfl rfl (by rw [u16s_length, hol]; exact own_below hown (belowT hb2 (belowT hb3 hb4))) (belowT hb1 (belowT hb2 (belowT hb3 hb4))) (belowT hb1 (belowT hb2 (belowT hb3 hb4))).size (by rw [u16s_length, hol]; omega) ?_; intro v1 w5 hown5 hb5 hg5 hz5))
                go_roundw
                case rel =>
                  refine ⟨k + 1, out ++ [v], by go_num, by omega, by simp [hol], ?_, HRN, hb5⟩
                  simpa [u16s, hol] using hown5
                case measure => simp [intOf]; omega
            · have hRn : R = none := by rw [hdec', if_neg (by omega)]
              have HRN := Lib.hid hRn
              have h4' : 4 < x.size := by omega
              clear hdec' hRn hpu h4
              go_wp2_with (first | (go_at_call 34; refine hDx.mono ?_; rintro e w2 ⟨⟨sv, rfl⟩, hb2⟩) | (go_at_call 32; refine (hUx _ (belowT hb1r hb2)).mono ?_; rintro e w3 ⟨rfl, hb3⟩))
              go_ret2
              obtain rfl := HRN.out
              exact ⟨rfl, belowT hb (belowT hb1 (belowT hb2 hb3))⟩
          | range =>
            rw [hpu] at hUx hdec'
            simp only [PuPost] at hUx
            simp only at hdec'
            have HRN := Lib.hid hdec'
            clear hdec' hpu
            go_wp2_with (first | (go_at_call 34; refine hDx.mono ?_; rintro e w2 ⟨⟨sv, rfl⟩, hb2⟩) | (go_at_call 32; refine (hUx _ (belowT hb1r hb2)).mono ?_; rintro e w3 ⟨⟨m, N, rfl⟩, hb3⟩))
            go_ret2
            obtain rfl := HRN.out
            exact ⟨rfl, belowT hb (belowT hb1 (belowT hb2 hb3))⟩
          | _ =>
            rw [hpu] at hUx hdec'
            simp only [PuPost] at hUx
            simp only at hdec'
            have HRN := Lib.hid hdec'
            clear hdec' hpu
            go_wp2_with (first | (go_at_call 34; refine hDx.mono ?_; rintro e w2 ⟨⟨sv, rfl⟩, hb2⟩) | (go_at_call 32; refine (hUx _ (belowT hb1r hb2)).mono ?_; rintro e w3 ⟨⟨m, N, rfl⟩, hb3⟩))
            go_ret2
            obtain rfl := HRN.out
            exact ⟨rfl, belowT hb (belowT hb1 (belowT hb2 hb3))⟩
        · have hkb := hkb rfl
          simp only [hexNum] at hdec'
          cases hpu : parseUS 16 65535 x.data.toList with
          | ok v =>
            have hv := parse16_le _ _ hpu
            rw [hpu] at hUx hdec'
            simp only [PuPost] at hUx
            simp only at hdec'
            by_cases h4 : x.size ≤ 4
            · cases hall : allB [kDec, kLet] x
              · have hRn : R = none := by rw [hdec', hall, if_neg (by simp)]
                rw [hall] at hAx
                have HRN := Lib.hid hRn
                clear hdec' hRn hpu hall
                go_wp2_with (first | (go_at_call 34; refine hDx.mono ?_; rintro e w2 ⟨⟨sv, rfl⟩, hb2⟩) | (go_at_call 32; refine (hUx _ (belowT hb1r hb2)).mono ?_; rintro e w3 ⟨rfl, hb3⟩) | (go_at_call 21; refine (hAx _).mono ?_; rintro e w4 ⟨rfl, hb4⟩))
                go_ret2
                obtain rfl := HRN.out
                exact ⟨rfl, belowT hb (belowT hb1 (belowT hb2 (belowT hb3 hb4)))⟩
              · have hRn := hdec'
                rw [hall, if_pos ⟨h4, rfl⟩] at hRn
                simp only at hRn
                rw [hall] at hAx
                have HRN := Lib.hid hRn
                clear hdec' hRn hpu hall
                go_wp2_with (first | (go_at_call 34; refine hDx.mono ?_; rintro e w2 ⟨⟨sv, rfl⟩, hb2⟩) | (go_at_call 32; refine (hUx _ (belowT hb1r hb2)).mono ?_; rintro e w3 ⟨rfl, hb3⟩) | (go_at_call 21; refine (hAx _).mono ?_; rintro e w4 ⟨rfl, hb4⟩) | (at_builtin; refine append1 (w0 := w1) w1.heap.size rfl _ _ 48 28 (.int .u16 0) 2 rfl Tryd.underlying48 HI.out rfl (by decide) _ (u16s out) (.int .u16 (v : Int)) rfl rfl rfl (by rw [u16s_length, hol]; exact own_below hown (belowT hb2 (belowT hb3 hb4))) (belowT hb1 (belowT hb2 (belowT hb3 hb4))) (belowT hb1 (belowT hb2 (belowT hb3 hb4))).size (by rw [u16s_length, hol]; omega) ?_; intro v1 w5 hown5 hb5 hg5 hz5))
                go_roundw
                case rel =>
                  refine ⟨k + 1, out ++ [v], by go_num, by omega, by simp [hol], ?_, HRN, hb5⟩
                  simpa [u16s, hol] using hown5
                case measure => simp [intOf]; omega
            · have hRn : R = none := by rw [hdec', if_neg (by omega)]
              have HRN := Lib.hid hRn
              have h4' : 4 < x.size := by omega
              clear hdec' hRn hpu h4
              go_wp2_with (first | (go_at_call 34; refine hDx.mono ?_; rintro e w2 ⟨⟨sv, rfl⟩, hb2⟩) | (go_at_call 32; refine (hUx _ (belowT hb1r hb2)).mono ?_; rintro e w3 ⟨rfl, hb3⟩))
              go_ret2
              obtain rfl := HRN.out
              exact ⟨rfl, belowT hb (belowT hb1 (belowT hb2 hb3))⟩
          | range =>
            rw [hpu] at hUx hdec'
            simp only [PuPost] at hUx
            simp only at hdec'
            have HRN := Lib.hid hdec'
            clear hdec' hpu
            go_wp2_with (first | (go_at_call 34; refine hDx.mono ?_; rintro e w2 ⟨⟨sv, rfl⟩, hb2⟩) | (go_at_call 32; refine (hUx _ (belowT hb1r hb2)).mono ?_; rintro e w3 ⟨⟨m, N, rfl⟩, hb3⟩))
            go_ret2
            obtain rfl := HRN.out
            exact ⟨rfl, belowT hb (belowT hb1 (belowT hb2 hb3))⟩
          | _ =>
            rw [hpu] at hUx hdec'
            simp only [PuPost] at hUx
            simp only at hdec'
            have HRN := Lib.hid hdec'
            clear hdec' hpu
            go_wp2_with (first | (go_at_call 34; refine hDx.mono ?_; rintro e w2 ⟨⟨sv, rfl⟩, hb2⟩) | (go_at_call 32; refine (hUx _ (belowT hb1r hb2)).mono ?_; rintro e w3 ⟨⟨m, N, rfl⟩, hb3⟩))
            go_ret2
            obtain rfl := HRN.out
            exact ⟨rfl, belowT hb (belowT hb1 (belowT hb2 hb3))⟩
    · have hkn : k = n := by omega
      have hRn : R = some out := by rw [hdec.out, List.drop_eq_nil_of_le (by rw [← HN.out]; omega)]; rfl
      have HRN := Lib.hid hRn
      clear hRn hdec
      have hlt' : ¬ (k : Int) < (n : Int) := by omega
      clear hkn
      go_wp2_with fail
      go_ret2
      obtain rfl := HRN.out
      exact ⟨⟨_, rfl, by rw [hol]; exact own_mono hown hb.size⟩, hb1r⟩

set_option maxHeartbeats 400000 in
theorem pieces_empty (en : Bool) (w : World) : Calls Tryd.prog 20 #[.string ByteArray.empty, .bool en] w (PiecePost (some []) w) := by
  have hemp : ByteArray.empty.toList.isEmpty = true := by rw [← decide_eq_emptyBytes]; exact decide_eq_true rfl
  go_enter Tryd.func20, Tryd.ntmps20
  go_wp2_with fail
  go_ret2
  exact ⟨⟨_, rfl, World.ownsRow_nil _ _ _ _⟩, Below.refl _ _⟩
theorem pieces_c (s : ByteArray) (en : Bool) (hs : s.size < 4294967281) (w : World) (ok : Ok w) :
    Calls Tryd.prog 20 #[.string s, .bool en] w (PiecePost (piecesS s en) w) := by
  unfold piecesS
  by_cases h0 : s.size = 0
  · rw [if_pos h0]; obtain rfl := size0 h0; exact pieces_empty en w
  · rw [if_neg h0]; exact pieces_go s en hs h0 w ok
end Go.Proofs.YthdepnahbhheoaaDoor
