/- addr.number -/
import Derived.Test.YthdepnahbhheoaaDoorAdG
namespace Go.Proofs.YthdepnahbhheoaaDoor
open Go.RowKit Go.Shelf

def kDec : Kind := ⟨22, isDec⟩
def kOct : Kind := ⟨31, isOct⟩
def kLet : Kind := ⟨30, isLet⟩
theorem kDec_ok : kDec.ok := ⟨enters_of Tryd.func22 (by kernel_rfl) rfl, decimal_c⟩
theorem kOct_ok : kOct.ok := ⟨enters_of Tryd.func31 (by kernel_rfl) rfl, octal_c⟩
theorem kLet_ok : kLet.ok := ⟨enters_of Tryd.func30 (by kernel_rfl) rfl, letter_c⟩
abbrev fDec : Value := .func (.func 22) #[] #[]
abbrev fOct : Value := .func (.func 31) #[] #[]
abbrev fLet : Value := .func (.func 30) #[] #[]

theorem all1 (k : Kind) (hk : k.ok) (s : ByteArray) (hs : s.size ≤ 4294967296) (w : World) (v : Value) (hv : v = k.val) (T : TypeId) :
    Calls Tryd.prog 21 #[.string s, .slice (some ⟨w.heap.size, 0, none⟩) 1 1] (w.alloc (.cells #[v] T)) fun e w' => e = .returned (.bool (allB [k] s)) ∧ Below w.heap.size w w' := by
  subst hv
  refine (all_c [k] (by simpa using hk) s w.heap.size 1 (w.alloc (.cells #[k.val] T)) hs (by simp) (fun j hj => ?_)).mono fun e w' ⟨a, b⟩ => ⟨a, ?_⟩
  · exact cellN w [k.val] T j (by simpa using hj) |>.trans (by congr 1; simp at hj; subst hj; rfl)
  · exact belowT ((Below.refl _ _).alloc (Nat.le_refl _) _) b
theorem all2 (k k' : Kind) (hk : k.ok) (hk' : k'.ok) (s : ByteArray) (hs : s.size ≤ 4294967296) (w : World) (v v' : Value) (hv : v = k.val) (hv' : v' = k'.val) (T : TypeId) :
    Calls Tryd.prog 21 #[.string s, .slice (some ⟨w.heap.size, 0, none⟩) 2 2] (w.alloc (.cells #[v, v'] T)) fun e w' => e = .returned (.bool (allB [k, k'] s)) ∧ Below w.heap.size w w' := by
  subst hv; subst hv'
  refine (all_c [k, k'] (by simp [hk, hk']) s w.heap.size 2 (w.alloc (.cells #[k.val, k'.val] T)) hs (by simp) (fun j hj => ?_)).mono fun e w' ⟨a, b⟩ => ⟨a, ?_⟩
  · refine (cellN w [k.val, k'.val] T j (by simpa using hj)).trans (by congr 1; simp at hj; rcases j with _ | _ | j <;> first | rfl | omega)
  · exact belowT ((Below.refl _ _).alloc (Nat.le_refl _) _) b

/-- A part of digits of a base: its number; one that is beyond every address, if it is beyond 64 bits. -/
def numG (base : Nat) (l : List UInt8) : Nat := match parseUS base 18446744073709551615 l with | .ok v => v | _ => 9223372036854775808
theorem puNum (base : Nat) (l : List UInt8) (e : Ending) (h : PuPost (parseUS base 18446744073709551615 l) e) :
    (e = .returned (.tuple #[.int .u64 (numG base l), .nilIface])) ∨ (∃ n N, e = .returned (.tuple #[.int .u64 n, .iface 92 (.pointer (some ⟨N, 0, none⟩))]) ∧ numG base l = 9223372036854775808) := by
  unfold numG
  cases hr : parseUS base 18446744073709551615 l with
  | ok v => rw [hr] at h; exact .inl h
  | range => rw [hr] at h; obtain ⟨n, N, h⟩ := h; exact .inr ⟨n, N, h, rfl⟩

  | _ => rw [hr] at h; obtain ⟨n, N, h⟩ := h; exact .inr ⟨n, N, h, rfl⟩
def NumPost (n : Nat) (b : Bool) (w : World) (e : Ending) (w' : World) : Prop := e = .returned (.tuple #[.int .u64 n, .bool b]) ∧ Below w.heap.size w w'

set_option maxHeartbeats 1000000 in
/-- A part that is decimal. -/
theorem number_dec (s : ByteArray) (hs : s.size ≤ 4294967295) (h0 : s.size ≠ 0) (hd : ¬ (1 < s.size ∧ ∃ h : 0 < s.size, s[0] = 48)) (w : World) (ok : Ok w) :
    Calls Tryd.prog 18 #[.string s] w (NumPost (if allB [kDec] s then numG 10 s.data.toList else 0) (allB [kDec] s) w) := by
  have hA : ∀ w1 : World, Below w.heap.size w w1 → Calls Tryd.prog 21 #[.string s, .slice (some ⟨w1.heap.size, 0, none⟩) 1 1] (w1.alloc (.cells #[fDec] 52)) fun e w' => e = .returned (.bool (allB [kDec] s)) ∧ Below w.heap.size w w' :=
    fun w1 hb => (all1 kDec kDec_ok s (by omega) w1 fDec rfl _).mono fun e w' ⟨a, b⟩ => ⟨a, belowT hb b⟩
  have hP : ∀ w1 : World, Below w.heap.size w w1 → Calls Tryd.prog 32 #[.string s, .int .i64 10, .int .i64 64] w1 fun e w' =>
      ((e = .returned (.tuple #[.int .u64 (numG 10 s.data.toList), .nilIface])) ∨ (∃ n N, e = .returned (.tuple #[.int .u64 n, .iface 92 (.pointer (some ⟨N, 0, none⟩))]) ∧ numG 10 s.data.toList = 9223372036854775808)) ∧ Below w.heap.size w w' :=
    fun w1 hb => (pu_10_64 s (by omega) w1 (ok.below hb)).mono fun e w' ⟨a, b⟩ => ⟨puNum _ _ _ a, belowT hb b⟩
  have hemp : s.toList.isEmpty = false := by
    rw [← decide_eq_emptyBytes]
    exact decide_eq_false (fun h => h0 (by rw [h]; rfl))
  have hw := Below.refl w.heap.size w
  generalize allB [kDec] s = okb at *
  generalize numG 10 s.data.toList = N at *
  clear ok
  unfold NumPost
  by_cases hsz : 1 < s.size
  · have h48 : (((s[0].toNat : Int)) == 48) = false := by
      rw [beq_eq_false_iff_ne]; intro h
      exact hd ⟨hsz, by omega, by rw [← UInt8.toNat_inj]; simpa using Int.ofNat.inj h⟩
    have hsz' : ¬ s.size ≤ 1 := by omega
    clear hd
    cases okb
    · go_enter Tryd.func18, Tryd.ntmps18
      go_wp2_with (first | (go_at_call 21; refine (hA _ (by assumption)).mono ?_; rintro e w1 ⟨rfl, hb1⟩) | (go_at_call 32; refine (hP _ (by assumption)).mono ?_; rintro e w2 ⟨rfl | ⟨n, N', rfl, hN⟩, hb2⟩))
      go_ret2
      exact ⟨rfl, by assumption⟩
    · go_enter Tryd.func18, Tryd.ntmps18
      go_wp2_with (first | (go_at_call 21; refine (hA _ (by assumption)).mono ?_; rintro e w1 ⟨rfl, hb1⟩) | (go_at_call 32; refine (hP _ (by assumption)).mono ?_; rintro e w2 ⟨rfl | ⟨n, N', rfl, hN⟩, hb2⟩))
      · go_ret2
        exact ⟨rfl, by assumption⟩
      · go_ret2
        exact ⟨rfl, by assumption⟩
  · have hsz' : s.size ≤ 1 := by omega
    clear hd
    cases okb
    · go_enter Tryd.func18, Tryd.ntmps18
      go_wp2_with (first | (go_at_call 21; refine (hA _ (by assumption)).mono ?_; rintro e w1 ⟨rfl, hb1⟩) | (go_at_call 32; refine (hP _ (by assumption)).mono ?_; rintro e w2 ⟨rfl | ⟨n, N', rfl, hN⟩, hb2⟩))
      go_ret2
      exact ⟨rfl, by assumption⟩
    · go_enter Tryd.func18, Tryd.ntmps18
      go_wp2_with (first | (go_at_call 21; refine (hA _ (by assumption)).mono ?_; rintro e w1 ⟨rfl, hb1⟩) | (go_at_call 32; refine (hP _ (by assumption)).mono ?_; rintro e w2 ⟨rfl | ⟨n, N', rfl, hN⟩, hb2⟩))
      · go_ret2
        exact ⟨rfl, by assumption⟩
      · go_ret2
        exact ⟨rfl, by assumption⟩

set_option maxHeartbeats 1000000 in
/-- A part that begins with 0x. -/
theorem number_hex (s : ByteArray) (hs : s.size ≤ 4294967295) (h1 : 1 < s.size) (h48 : s[0] = 48) (hx : (s[1] ||| 32) = 120) (w : World) (ok : Ok w) :
    Calls Tryd.prog 18 #[.string s] w
      (NumPost (if allB [kDec, kLet] (s.extract 2 s.size) && decide (2 < s.size) then numG 16 (s.extract 2 s.size).data.toList else 0) (allB [kDec, kLet] (s.extract 2 s.size)) w) := by
  have hA : ∀ w1 : World, Below w.heap.size w w1 → Calls Tryd.prog 21 #[.string s, .slice (some ⟨w1.heap.size, 0, none⟩) 1 1] (w1.alloc (.cells #[fDec] 52)) fun e w' => e = .returned (.bool (allB [kDec] s)) ∧ Below w.heap.size w w' :=
    fun w1 hb => (all1 kDec kDec_ok s (by omega) w1 fDec rfl _).mono fun e w' ⟨a, b⟩ => ⟨a, belowT hb b⟩
  obtain ⟨r, hr⟩ : ∃ r, r = s.extract 2 s.size := ⟨_, rfl⟩
  have hrs : r.size = s.size - 2 := by rw [hr]; simp
  have hA2 : ∀ w1 : World, Below w.heap.size w w1 → Calls Tryd.prog 21 #[.string r, .slice (some ⟨w1.heap.size, 0, none⟩) 2 2] (w1.alloc (.cells #[fDec, fLet] 52)) fun e w' => e = .returned (.bool (allB [kDec, kLet] r)) ∧ Below w.heap.size w w' :=
    fun w1 hb => (all2 kDec kLet kDec_ok kLet_ok r (by omega) w1 fDec fLet rfl rfl _).mono fun e w' ⟨a, b⟩ => ⟨a, belowT hb b⟩
  have hP : ∀ w1 : World, Below w.heap.size w w1 → Calls Tryd.prog 32 #[.string r, .int .i64 16, .int .i64 64] w1 fun e w' =>
      ((e = .returned (.tuple #[.int .u64 (numG 16 r.data.toList), .nilIface])) ∨ (∃ n N, e = .returned (.tuple #[.int .u64 n, .iface 92 (.pointer (some ⟨N, 0, none⟩))]) ∧ numG 16 r.data.toList = 9223372036854775808)) ∧ Below w.heap.size w w' :=
    fun w1 hb => (pu_16_64 r (by omega) w1 (ok.below hb)).mono fun e w' ⟨a, b⟩ => ⟨puNum _ _ _ a, belowT hb b⟩
  have hemp : s.toList.isEmpty = false := by
    rw [← decide_eq_emptyBytes]
    exact decide_eq_false (fun h => by rw [h] at h1; exact absurd h1 (by decide))
  have hemr : r.toList.isEmpty = !decide (2 < s.size) := by
    rw [← decide_eq_emptyBytes]
    by_cases h : 2 < s.size
    · rw [decide_eq_true h]; exact decide_eq_false (fun h' => by rw [h'] at hrs; simp at hrs; omega)
    · rw [decide_eq_false h]; exact decide_eq_true (size0 (by omega))
  have hw := Below.refl w.heap.size w
  have h48' : (((s[0].toNat : Int)) == 48) = true := by rw [h48]; rfl
  have hx' : (bits .or .u8 (s[1].toNat : Int) 32 == 120) = true := by rw [or32, hx]; rfl
  rw [← hr]
  generalize allB [kDec] s = okb at *
  generalize allB [kDec, kLet] r = ok2 at *
  generalize numG 16 r.data.toList = N at *
  have HR := Lib.hid hr
  clear ok h48 hx hrs
  obtain ⟨V, hV⟩ : ∃ V : Nat, V = (if ok2 && decide (2 < s.size) then N else 0) := ⟨_, rfl⟩
  rw [← hV]
  have HV := Lib.hid hV
  clear hV
  unfold NumPost
  go_enter Tryd.func18, Tryd.ntmps18
  go_wp2_with (go_at_call 21; refine (hA _ (by assumption)).mono ?_; rintro e w1 ⟨rfl, hb1⟩)
  clear hr
  go_quiet (fail)
  rw [← HR.out]
  have hb2 := below_drewN hb1 nq
  generalize w1.drewN nq = w2 at *
  cases ok2
  · go_wp2_with (first | (go_at_call 21; refine (hA2 _ (by assumption)).mono ?_; rintro e w1 ⟨rfl, hb1⟩) | (go_at_call 32; refine (hP _ (by assumption)).mono ?_; rintro e w2 ⟨rfl | ⟨n, N', rfl, hN⟩, hb2⟩))
    go_ret2
    obtain rfl : V = 0 := by rw [HV.out]; simp
    exact ⟨rfl, by assumption⟩
  · by_cases h2 : 2 < s.size
    · have hemr' : r.toList.isEmpty = false := by rw [hemr]; simp [h2]
      clear hemr
      go_wp2_with (first | (go_at_call 21; refine (hA2 _ (by assumption)).mono ?_; rintro e w1 ⟨rfl, hb1⟩) | (go_at_call 32; refine (hP _ (by assumption)).mono ?_; rintro e w2 ⟨rfl | ⟨n, N', rfl, hN⟩, hb2⟩))
      all_goals go_ret2
      · obtain rfl : V = N := HV.out.trans (if_pos (by simp [h2]))
        exact ⟨rfl, by assumption⟩
      · obtain rfl : V = 9223372036854775808 := (HV.out.trans (if_pos (by simp [h2]))).trans hN
        exact ⟨rfl, by assumption⟩
    · have hemr' : r.toList.isEmpty = true := by rw [hemr]; simp [h2]
      clear hemr
      go_wp2_with (first | (go_at_call 21; refine (hA2 _ (by assumption)).mono ?_; rintro e w1 ⟨rfl, hb1⟩) | (go_at_call 32; refine (hP _ (by assumption)).mono ?_; rintro e w2 ⟨rfl | ⟨n, N', rfl, hN⟩, hb2⟩))
      all_goals go_ret2
      all_goals (obtain rfl : V = 0 := HV.out.trans (if_neg (by simp [h2])))
      all_goals exact ⟨rfl, by assumption⟩

set_option maxHeartbeats 1000000 in
/-- A part that begins with 0, and not with 0x. -/
theorem number_oct (s : ByteArray) (hs : s.size ≤ 4294967295) (h1 : 1 < s.size) (h48 : s[0] = 48) (hx : (s[1] ||| 32) ≠ 120) (w : World) (ok : Ok w) :
    Calls Tryd.prog 18 #[.string s] w
      (NumPost (if allB [kOct] (s.extract 1 s.size) then numG 8 (s.extract 1 s.size).data.toList else 0) (allB [kOct] (s.extract 1 s.size)) w) := by
  have hA : ∀ w1 : World, Below w.heap.size w w1 → Calls Tryd.prog 21 #[.string s, .slice (some ⟨w1.heap.size, 0, none⟩) 1 1] (w1.alloc (.cells #[fDec] 52)) fun e w' => e = .returned (.bool (allB [kDec] s)) ∧ Below w.heap.size w w' :=
    fun w1 hb => (all1 kDec kDec_ok s (by omega) w1 fDec rfl _).mono fun e w' ⟨a, b⟩ => ⟨a, belowT hb b⟩
  obtain ⟨r, hr⟩ : ∃ r, r = s.extract 1 s.size := ⟨_, rfl⟩
  have hrs : r.size = s.size - 1 := by rw [hr]; simp
  have hA2 : ∀ w1 : World, Below w.heap.size w w1 → Calls Tryd.prog 21 #[.string r, .slice (some ⟨w1.heap.size, 0, none⟩) 1 1] (w1.alloc (.cells #[fOct] 52)) fun e w' => e = .returned (.bool (allB [kOct] r)) ∧ Below w.heap.size w w' :=
    fun w1 hb => (all1 kOct kOct_ok r (by omega) w1 fOct rfl _).mono fun e w' ⟨a, b⟩ => ⟨a, belowT hb b⟩
  have hP : ∀ w1 : World, Below w.heap.size w w1 → Calls Tryd.prog 32 #[.string r, .int .i64 8, .int .i64 64] w1 fun e w' =>
      ((e = .returned (.tuple #[.int .u64 (numG 8 r.data.toList), .nilIface])) ∨ (∃ n N, e = .returned (.tuple #[.int .u64 n, .iface 92 (.pointer (some ⟨N, 0, none⟩))]) ∧ numG 8 r.data.toList = 9223372036854775808)) ∧ Below w.heap.size w w' :=
    fun w1 hb => (pu_8_64 r (by omega) w1 (ok.below hb)).mono fun e w' ⟨a, b⟩ => ⟨puNum _ _ _ a, belowT hb b⟩
  have hemp : s.toList.isEmpty = false := by
    rw [← decide_eq_emptyBytes]
    exact decide_eq_false (fun h => by rw [h] at h1; exact absurd h1 (by decide))
  have hemr : r.toList.isEmpty = false := by
    rw [← decide_eq_emptyBytes]
    exact decide_eq_false (fun h' => by rw [h'] at hrs; simp at hrs; omega)
  have hw := Below.refl w.heap.size w
  have h48' : (((s[0].toNat : Int)) == 48) = true := by rw [h48]; rfl
  have hx' : (bits .or .u8 (s[1].toNat : Int) 32 == 120) = false := by
    rw [or32, beq_eq_false_iff_ne]; intro h
    exact hx (by rw [← UInt8.toNat_inj]; simpa using Int.ofNat.inj h)
  rw [← hr]
  generalize allB [kDec] s = okb at *
  generalize allB [kOct] r = ok2 at *
  generalize numG 8 r.data.toList = N at *
  have HR := Lib.hid hr
  clear ok h48 hx hrs
  obtain ⟨V, hV⟩ : ∃ V : Nat, V = (if ok2 then N else 0) := ⟨_, rfl⟩
  rw [← hV]
  have HV := Lib.hid hV
  clear hV
  unfold NumPost
  go_enter Tryd.func18, Tryd.ntmps18
  go_wp2_with (go_at_call 21; refine (hA _ (by assumption)).mono ?_; rintro e w1 ⟨rfl, hb1⟩)
  clear hr
  go_quiet (fail)
  rw [← HR.out]
  have hb2 := below_drewN hb1 nq
  generalize w1.drewN nq = w2 at *
  cases ok2
  · go_wp2_with (first | (go_at_call 21; refine (hA2 _ (by assumption)).mono ?_; rintro e w1 ⟨rfl, hb1⟩) | (go_at_call 32; refine (hP _ (by assumption)).mono ?_; rintro e w2 ⟨rfl | ⟨n, N', rfl, hN⟩, hb2⟩))
    go_ret2
    obtain rfl : V = 0 := by rw [HV.out]; simp
    exact ⟨rfl, by assumption⟩
  · go_wp2_with (first | (go_at_call 21; refine (hA2 _ (by assumption)).mono ?_; rintro e w1 ⟨rfl, hb1⟩) | (go_at_call 32; refine (hP _ (by assumption)).mono ?_; rintro e w2 ⟨rfl | ⟨n, N', rfl, hN⟩, hb2⟩))
    all_goals go_ret2
    · obtain rfl : V = N := HV.out.trans (if_pos (by simp))
      exact ⟨rfl, by assumption⟩
    · obtain rfl : V = 9223372036854775808 := (HV.out.trans (if_pos (by simp))).trans hN
      exact ⟨rfl, by assumption⟩

set_option maxHeartbeats 400000 in
theorem number_empty (w : World) : Calls Tryd.prog 18 #[.string ByteArray.empty] w (NumPost 0 false w) := by
  have hemp : ByteArray.empty.toList.isEmpty = true := by rw [← decide_eq_emptyBytes]; exact decide_eq_true rfl
  unfold NumPost
  go_enter Tryd.func18, Tryd.ntmps18
  go_wp2_with fail
  all_goals go_ret2
  all_goals exact ⟨rfl, Below.refl _ _⟩

/-- A part's number; whether it is one. -/
def numS (l : List UInt8) : Nat × Bool :=
  match l with
  | a :: c :: r =>
    if a = 48 then
      if (c ||| 32) = 120 then (if (r.all fun b => isDec b || isLet b) && !r.isEmpty then numG 16 r else 0, r.all fun b => isDec b || isLet b)
      else (if (c :: r).all isOct then numG 8 (c :: r) else 0, (c :: r).all isOct)
    else (if (a :: c :: r).all isDec then numG 10 (a :: c :: r) else 0, (a :: c :: r).all isDec)
  | [a] => (if isDec a then numG 10 [a] else 0, isDec a)
  | [] => (0, false)
theorem allB_dec (s : ByteArray) : allB [kDec] s = s.data.toList.all isDec := by simp [allB, kindAny, kDec]
theorem allB_oct (s : ByteArray) : allB [kOct] s = s.data.toList.all isOct := by simp [allB, kindAny, kOct]
theorem allB_hex (s : ByteArray) : allB [kDec, kLet] s = s.data.toList.all fun b => isDec b || isLet b := by simp [allB, kindAny, kDec, kLet]
theorem getB (s : ByteArray) (i : Nat) (h : i < s.size) (l : List UInt8) (hl : s.data.toList = l) (h' : i < l.length) : s[i] = l[i] := by subst hl; rfl

theorem number_c (s : ByteArray) (hs : s.size ≤ 4294967295) (w : World) (ok : Ok w) :
    Calls Tryd.prog 18 #[.string s] w (NumPost (numS s.data.toList).1 (numS s.data.toList).2 w) := by
  have hsz : s.size = s.data.toList.length := Lib.size_eq s
  match hl : s.data.toList with
  | [] =>
    obtain rfl := size0 (by rw [hsz, hl]; rfl)
    exact number_empty w
  | [a] =>
    have h1 : s.size = 1 := by rw [hsz, hl]; rfl
    have h := number_dec s hs (by omega) (fun h => by omega) w ok
    rw [allB_dec, hl] at h
    simpa [numS] using h
  | a :: c :: r =>
    have h2 : s.size = r.length + 2 := by rw [hsz, hl]; rfl
    have g0 : s[0] = a := getB s 0 (by omega) _ hl (by simp)
    have g1 : s[1] = c := getB s 1 (by omega) _ hl (by simp)
    by_cases ha : a = 48
    · by_cases hc : (c ||| 32) = 120
      · have h := number_hex s hs (by omega) (g0.trans ha) (by rw [g1]; exact hc) w ok
        have e : (s.extract 2 s.size).data.toList = r := by rw [Lib.extract_data, hl, h2]; simp
        rw [allB_hex, e] at h
        have e3 : decide (2 < s.size) = !r.isEmpty := by rw [h2]; cases r <;> simp
        rw [e3] at h
        simp only [numS, if_pos ha, if_pos hc]
        exact h
      · have h := number_oct s hs (by omega) (g0.trans ha) (by rw [g1]; exact hc) w ok
        have e : (s.extract 1 s.size).data.toList = c :: r := by rw [Lib.extract_data, hl, h2]; simp
        rw [allB_oct, e] at h
        simp only [numS, if_pos ha, if_neg hc]
        exact h
    · have h := number_dec s hs (by omega) (fun h => ha (by rw [← g0]; exact h.2.2)) w ok
      rw [allB_dec, hl] at h
      simp only [numS, if_neg ha]
      exact h

end Go.Proofs.YthdepnahbhheoaaDoor
