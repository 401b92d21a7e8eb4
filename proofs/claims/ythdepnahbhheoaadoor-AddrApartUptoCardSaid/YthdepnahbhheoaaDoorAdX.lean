/- AddrApart: the walk -/
import Derived.Test.YthdepnahbhheoaaDoorAdW
import Derived.Deep.RegionHeld3
namespace Go.Proofs.YthdepnahbhheoaaDoor
open Go.RowKit
set_option maxRecDepth 100000 in
set_option maxHeartbeats 2000000 in
theorem addrApart_c (a b c d e f g i a' b' c' d' e' f' g' i' : Nat) (hA : ∀ n ∈ [a, b, c, d, e, f, g, i], n < 65536) (hB : ∀ n ∈ [a', b', c', d', e', f', g', i'], n < 65536) (s : ByteArray) (hs : s.size ≤ 4294000000) (w : World) (ok : Ok2 w) :
    Calls Tryd.prog 4 #[.agg #[.int .u16 a, .int .u16 b, .int .u16 c, .int .u16 d, .int .u16 e, .int .u16 f, .int .u16 g, .int .u16 i], .agg #[.int .u16 a', .int .u16 b', .int .u16 c', .int .u16 d', .int .u16 e', .int .u16 f', .int .u16 g', .int .u16 i'], .string s] w fun e1 w' => e1 = .returned (.bool true) ∧ Below w.heap.size w w' := by
  have OK := Lib.hid ok
  clear ok
  have hr1 := (Row8.new w a b c d e f g i).below ((Below.refl _ _).alloc (Nat.le_refl _) (R8 a' b' c' d' e' f' g' i'))
  have hr2 := Row8.new (w.alloc (R8 a b c d e f g i)) a' b' c' d' e' f' g' i'
  have hbW : Below w.heap.size w ((w.alloc (R8 a b c d e f g i)).alloc (R8 a' b' c' d' e' f' g' i')) := ((Below.refl _ _).alloc (Nat.le_refl _) _).alloc (by simp) _
  have HR1 : Hid (∀ w1, Below ((w.alloc (R8 a b c d e f g i)).alloc (R8 a' b' c' d' e' f' g' i')).heap.size ((w.alloc (R8 a b c d e f g i)).alloc (R8 a' b' c' d' e' f' g' i')) w1 → Row8 w1 w.heap.size a b c d e f g i ∧ Row8 w1 (w.heap.size + 1) a' b' c' d' e' f' g' i') :=
    Lib.hid fun w1 hb => ⟨hr1.below hb, by have := hr2.below hb; simpa using this⟩
  clear hr1 hr2
  go_enter Tryd.func4, Tryd.ntmps4
  go_wp2_with fail
  generalize hW0 : (w.alloc (R8 a b c d e f g i)).alloc (R8 a' b' c' d' e' f' g' i') = W at *
  clear hW0
  have hT : ((textV6B [a, b, c, d, e, f, g, i]).toList == (textV6B [a', b', c', d', e', f', g', i']).toList) = decide ([a, b, c, d, e, f, g, i] = [a', b', c', d', e', f', g', i']) := by
    rw [Bool.eq_iff_iff, beq_iff_eq, decide_eq_true_eq]
    constructor
    · intro h
      have h' : textV6B [a, b, c, d, e, f, g, i] = textV6B [a', b', c', d', e', f', g', i'] := toB_inj (by rw [← ByteArray.toList_eq, ← ByteArray.toList_eq]; exact h)
      have h1 := v6_text _ rfl hA
      rw [h', v6_text _ rfl hB] at h1
      exact (Option.some.inj h1).symm
    · intro h; rw [h]
  have hE := eq88 a b c d e f g i a' b' c' d' e' f' g' i'
  have q1 : ∀ w1, Below W.heap.size W w1 → Calls Tryd.prog 12 #[.agg #[.int .u16 a, .int .u16 b, .int .u16 c, .int .u16 d, .int .u16 e, .int .u16 f, .int .u16 g, .int .u16 i]] w1 fun e1 w' => e1 = .returned (.string (textV6B [a, b, c, d, e, f, g, i])) ∧ Below W.heap.size W w' :=
    fun w1 hb => (text8 a b c d e f g i hA w1 (OK.out.below (belowT hbW hb))).mono fun e w' ⟨x, y⟩ => ⟨x, belowT hb y⟩
  have q2 : ∀ w1, Below W.heap.size W w1 → Calls Tryd.prog 12 #[.agg #[.int .u16 a', .int .u16 b', .int .u16 c', .int .u16 d', .int .u16 e', .int .u16 f', .int .u16 g', .int .u16 i']] w1 fun e1 w' => e1 = .returned (.string (textV6B [a', b', c', d', e', f', g', i'])) ∧ Below W.heap.size W w' :=
    fun w1 hb => (text8 a' b' c' d' e' f' g' i' hB w1 (OK.out.below (belowT hbW hb))).mono fun e w' ⟨x, y⟩ => ⟨x, belowT hb y⟩
  generalize decide ([a, b, c, d, e, f, g, i] = [a', b', c', d', e', f', g', i']) = D at *
  generalize textV6B [a, b, c, d, e, f, g, i] = T1 at *
  generalize textV6B [a', b', c', d', e', f', g', i'] = T2 at *
  have Q1 := Lib.hid q1
  have Q2 := Lib.hid q2
  clear q1 q2 hA hB
  refine (lives_c _ (OK.out.below hbW)).mono ?_
  rintro e1 w1 ⟨rfl, hb1⟩
  obtain ⟨⟨c0, c1, c2, c3, c4, c5, c6, c7⟩, d0, d1, d2, d3, d4, d5, d6, d7⟩ := HR1.out w1 hb1
  have HRS : Hid (∀ w', Below W.heap.size W w' → w'.cell? ⟨w.heap.size, 0, none⟩ = some (.int .u16 a) ∧ w'.cell? ⟨w.heap.size, 1, none⟩ = some (.int .u16 b) ∧ w'.cell? ⟨w.heap.size, 2, none⟩ = some (.int .u16 c) ∧ w'.cell? ⟨w.heap.size, 3, none⟩ = some (.int .u16 d) ∧ w'.cell? ⟨w.heap.size, 4, none⟩ = some (.int .u16 e) ∧ w'.cell? ⟨w.heap.size, 5, none⟩ = some (.int .u16 f) ∧ w'.cell? ⟨w.heap.size, 6, none⟩ = some (.int .u16 g) ∧ w'.cell? ⟨w.heap.size, 7, none⟩ = some (.int .u16 i) ∧ w'.cell? ⟨w.heap.size + 1, 0, none⟩ = some (.int .u16 a') ∧ w'.cell? ⟨w.heap.size + 1, 1, none⟩ = some (.int .u16 b') ∧ w'.cell? ⟨w.heap.size + 1, 2, none⟩ = some (.int .u16 c') ∧ w'.cell? ⟨w.heap.size + 1, 3, none⟩ = some (.int .u16 d') ∧ w'.cell? ⟨w.heap.size + 1, 4, none⟩ = some (.int .u16 e') ∧ w'.cell? ⟨w.heap.size + 1, 5, none⟩ = some (.int .u16 f') ∧ w'.cell? ⟨w.heap.size + 1, 6, none⟩ = some (.int .u16 g') ∧ w'.cell? ⟨w.heap.size + 1, 7, none⟩ = some (.int .u16 i')) := Lib.hid fun w' hb => by
    obtain ⟨⟨c0, c1, c2, c3, c4, c5, c6, c7⟩, d0, d1, d2, d3, d4, d5, d6, d7⟩ := HR1.out w' hb
    exact ⟨c0, c1, c2, c3, c4, c5, c6, c7, d0, d1, d2, d3, d4, d5, d6, d7⟩
  go_wp2_with fail
  go_region_held3 (fun w' => w'.cell? ⟨w.heap.size, 0, none⟩ = some (.int .u16 a) ∧ w'.cell? ⟨w.heap.size, 1, none⟩ = some (.int .u16 b) ∧ w'.cell? ⟨w.heap.size, 2, none⟩ = some (.int .u16 c) ∧ w'.cell? ⟨w.heap.size, 3, none⟩ = some (.int .u16 d) ∧ w'.cell? ⟨w.heap.size, 4, none⟩ = some (.int .u16 e) ∧ w'.cell? ⟨w.heap.size, 5, none⟩ = some (.int .u16 f) ∧ w'.cell? ⟨w.heap.size, 6, none⟩ = some (.int .u16 g) ∧ w'.cell? ⟨w.heap.size, 7, none⟩ = some (.int .u16 i) ∧ w'.cell? ⟨w.heap.size + 1, 0, none⟩ = some (.int .u16 a') ∧ w'.cell? ⟨w.heap.size + 1, 1, none⟩ = some (.int .u16 b') ∧ w'.cell? ⟨w.heap.size + 1, 2, none⟩ = some (.int .u16 c') ∧ w'.cell? ⟨w.heap.size + 1, 3, none⟩ = some (.int .u16 d') ∧ w'.cell? ⟨w.heap.size + 1, 4, none⟩ = some (.int .u16 e') ∧ w'.cell? ⟨w.heap.size + 1, 5, none⟩ = some (.int .u16 f') ∧ w'.cell? ⟨w.heap.size + 1, 6, none⟩ = some (.int .u16 g') ∧ w'.cell? ⟨w.heap.size + 1, 7, none⟩ = some (.int .u16 i')) (first | go_keep | (exact HRS.out _ (by first | assumption | exact Below.drew (by assumption))))
    (first | (go_at_call 12; ((with_reducible refine (Q1.out _ ?_).mono ?_); (first | assumption | exact Below.drew (by assumption)); rintro e2 w2 ⟨rfl, hb2⟩)) | (go_at_call 12; ((with_reducible refine (Q2.out _ ?_).mono ?_); (first | assumption | exact Below.drew (by assumption)); rintro e2 w2 ⟨rfl, hb2⟩)))
  go_wp2_with fail
  have hbv := belowT hbW (by assumption : Below W.heap.size W w2)
  clear HRS HR1 hT hE Q1 Q2 hbW hb1
  cases hr : v6B s with
  | none =>
    have q3 := v6_no s hr (by omega) w2 (OK.out.below hbv).toOk
    simp only [u16s, List.replicate, List.map] at q3
    have hE0 := eq88 0 0 0 0 0 0 0 0 0 0 0 0 0 0 0 0
    simp only [decide_true, Int.cast_ofNat_Int] at hE0
    refine q3.mono ?_
    rintro e3 w3 ⟨rfl, hb3⟩
    go_wp2_with fail
    go_ret
    exact ⟨rfl, (belowT hbv hb3).alloc (belowT hbv hb3).size _⟩
  | some l =>
    obtain ⟨hl, hlt⟩ := v6_lt s l hr
    obtain ⟨x0, x1, x2, x3, x4, x5, x6, x7, rfl⟩ := list8 l hl
    refine (v6_8 s x0 x1 x2 x3 x4 x5 x6 x7 hr (by omega) w2 (OK.out.below hbv).toOk).mono ?_
    rintro e3 w3 ⟨rfl, hb3⟩
    clear hr hl
    have hb3' := belowT hbv hb3
    have hb4 : Below w.heap.size w (w3.alloc (R8 x0 x1 x2 x3 x4 x5 x6 x7)) := hb3'.alloc hb3'.size _
    have hrow := Row8.new w3 x0 x1 x2 x3 x4 x5 x6 x7
    have hv := v6_text [x0, x1, x2, x3, x4, x5, x6, x7] rfl hlt
    have hts := textV6_len [x0, x1, x2, x3, x4, x5, x6, x7] rfl
    have htb := text_byte [x0, x1, x2, x3, x4, x5, x6, x7] hlt
    have q4 := text8 x0 x1 x2 x3 x4 x5 x6 x7 hlt _ (OK.out.below hb4)
    generalize textV6B [x0, x1, x2, x3, x4, x5, x6, x7] = T at *
    have hE1 := eq88 x0 x1 x2 x3 x4 x5 x6 x7 x0 x1 x2 x3 x4 x5 x6 x7
    simp only [decide_true] at hE1
    have HTB := Lib.hid htb
    have HV := Lib.hid hv
    clear htb hv hlt
    go_wp2_with fail
    refine q4.mono ?_
    rintro e4 w4 ⟨rfl, hb5⟩
    have hb5' := belowT hb4 hb5
    have hrow4 := hrow.below hb5
    go_wp2_with fail
    refine (v6_8 T x0 x1 x2 x3 x4 x5 x6 x7 HV.out (by omega) w4 (OK.out.below hb5').toOk).mono ?_
    rintro e5 w5 ⟨rfl, hb6⟩
    have hb6' := belowT hb5' hb6
    obtain ⟨r0, r1, r2, r3, r4, r5, r6, r7⟩ := (hrow4.below hb6).below ((Below.refl _ _).alloc (Nat.le_refl _) (R8 x0 x1 x2 x3 x4 x5 x6 x7))
    have hfin : Below w.heap.size w (w5.alloc (R8 x0 x1 x2 x3 x4 x5 x6 x7)) := hb6'.alloc hb6'.size _
    clear q4 hrow hrow4
    go_wp2_with fail
    go_loop [12] (fun v => ∃ k : Nat, k ≤ T.size ∧ v = .int .i64 k) (fun v => T.size - (intOf v).toNat)
    case atStart => exact ⟨0, Nat.zero_le _, rfl⟩
    case round =>
      obtain ⟨k, hk, rfl⟩ := hrel
      by_cases hlt : k < T.size
      · obtain ⟨t1, t2⟩ := HTB.out k hlt
        have t3 : ((T[k].toNat : Int) == 46) = false := by rw [beq_eq_false_iff_ne]; omega
        have t4 := T[k].toNat_lt
        by_cases t5 : 65 ≤ T[k].toNat
        · have t6 : ¬ T[k].toNat ≤ 90 := fun h => t1 ⟨t5, h⟩
          have t7 : (90 : Int) < (T[k].toNat : Int) := by omega
          clear t1 t2
          go_wp2_with fail
          go_round
          case rel => exact ⟨k + 1, by omega, by go_num⟩
          case measure => simp [intOf]; omega
        · have t7 : (T[k].toNat : Int) < 65 := by omega
          clear t1 t2
          go_wp2_with fail
          go_round
          case rel => exact ⟨k + 1, by omega, by go_num⟩
          case measure => simp [intOf]; omega
      · go_wp2_with fail
        go_ret
        exact ⟨rfl, hfin⟩
end Go.Proofs.YthdepnahbhheoaaDoor
