/- strconv.FormatUint at base 16, addr.hex -/
import Derived.Test.YthdepnahbhheoaaDoorAdQ
namespace Go.Proofs.YthdepnahbhheoaaDoor
open Go.RowKit

/-- What every call below may lean on. -/
structure Ok2 (w : World) : Prop extends Ok w where
  tz : w.cell? ⟨5, 15, none⟩ = some (.int .u8 4)
theorem Ok2.below {w w' : World} (h : Ok2 w) (hb : Below w.heap.size w w') : Ok2 w' := ⟨h.toOk.below hb, cellB hb h.tz⟩
theorem Ok2.alloc {w : World} (h : Ok2 w) (o : Obj) : Ok2 (w.alloc o) := h.below ((Below.refl _ _).alloc (Nat.le_refl _) o)

def hexS (n : Nat) : ByteArray := ⟨((hexL n).map UInt8.ofNat).toArray⟩
set_option maxHeartbeats 400000 in
theorem formatUintI_c (n : Nat) (hn : n < 65536) (w : World) (ok : Ok2 w) :
    Calls Tryd.prog 47 #[.int .u64 (n : Int), .int .i64 16] w fun e w' => e = .returned (.string (hexS n)) ∧ Below w.heap.size w w' := by
  have hF := formatBits_c n hn w ok.tz
  unfold hexS
  generalize ((hexL n).map UInt8.ofNat).toArray = d at *
  clear ok
  go_enter Tryd.func47, Tryd.ntmps47
  go_wp2_with (go_at_call 51; refine hF.mono ?_; rintro e w1 ⟨rfl, hb1⟩)
  go_ret
  exact ⟨rfl, hb1⟩
set_option maxHeartbeats 400000 in
theorem formatUint_c (n : Nat) (hn : n < 65536) (w : World) (ok : Ok2 w) :
    Calls Tryd.prog 37 #[.int .u64 (n : Int), .int .i64 16] w fun e w' => e = .returned (.string (hexS n)) ∧ Below w.heap.size w w' := by
  have hF := formatUintI_c n hn w ok
  generalize hexS n = d at *
  clear ok
  go_enter Tryd.func37, Tryd.ntmps37
  go_wp2_with (go_at_call 47; refine hF.mono ?_; rintro e w1 ⟨rfl, hb1⟩)
  go_ret
  exact ⟨rfl, hb1⟩

def hexJ (l : List Nat) : ByteArray := joinB (l.map hexS) ⟨#[58]⟩
theorem hexL_short (n : Nat) : (hexL n).length ≤ 4 := by have := hexGo_len 3 n []; simpa [hexL] using this
theorem join_le (sep : List UInt8) (m : Nat) : ∀ l : List (List UInt8), (∀ x ∈ l, x.length ≤ m) → (Lib.join l sep).length ≤ l.length * (m + sep.length)
  | [], _ => by simp [Lib.join_nil]
  | x :: r, h => by
    rw [Lib.join_cons, List.length_append]
    have hx := h x (by simp)
    have : (Lib.joinTail sep r).length ≤ r.length * (m + sep.length) := by
      unfold Lib.joinTail
      have hr : ∀ x ∈ r, x.length ≤ m := fun x hx => h x (by simp [hx])
      clear h hx
      induction r with
      | nil => simp
      | cons y r ih =>
        have h1 := hr y (by simp)
        have h2 := ih (fun x hx => hr x (by simp [hx]))
        simp only [List.map_cons, List.flatten_cons, List.length_append, List.length_cons]
        rw [Nat.add_mul]; omega
    simp only [List.length_cons]
    rw [Nat.add_mul]; omega
theorem hexjoin_short (l : List Nat) (hl : l.length ≤ 8) : (Lib.join ((l.map hexS).map (·.data.toList)) [58]).length ≤ 40 := by
  have := join_le [58] 4 ((l.map hexS).map (·.data.toList)) (fun x hx => by
    simp only [List.mem_map] at hx
    obtain ⟨_, ⟨n, _, rfl⟩, rfl⟩ := hx
    simpa [hexS] using hexL_short n)
  simp only [List.length_map, List.length_cons, List.length_nil] at this
  have : l.length * (4 + (0 + 1)) ≤ 8 * 5 := Nat.mul_le_mul hl (by decide)
  omega

set_option maxHeartbeats 1000000 in
theorem hex_c (l : List Nat) (hl : l.length ≤ 8) (hlt : ∀ (j n : Nat), l[j]? = some n → n < 65536) (B o cap : Nat) (w : World) (ok : Ok2 w)
    (hc : ∀ (j n : Nat), l[j]? = some n → w.cell? ⟨B, o + j, none⟩ = some (.int .u16 (n : Int))) :
    Calls Tryd.prog 24 #[.slice (some ⟨B, o, none⟩) l.length cap] w fun e w' => e = .returned (.string (hexJ l)) ∧ Below w.heap.size w w' := by
  have hF : Hid (∀ (n : Nat) w1, n < 65536 → Below w.heap.size w w1 → Calls Tryd.prog 37 #[.int .u64 (n : Int), .int .i64 16] w1 fun e w' => e = .returned (.string (hexS n)) ∧ Below w1.heap.size w1 w') :=
    Lib.hid fun n w1 h hb => formatUint_c n h w1 (ok.below hb)
  have hinfo : Hid ((Tryd.prog.info? 9).map (fun i => (i.zero, i.size, i.bytes)) = some (some (.string ByteArray.empty), 1, 16)) := Lib.hid (by kernel_rfl)
  have HJ : Hid (∀ v w1, Below w.heap.size w w1 → w1.ownsRow w.heap.size 9 1 v l.length ((l.map hexS).map Value.string) → Calls Tryd.prog 16 #[v, .string ⟨#[58]⟩] w1 fun e w' => e = .returned (.string (hexJ l)) ∧ Below w.heap.size w w') :=
    Lib.hid fun v w1 hb h => (join_c (l.map hexS) ⟨#[58]⟩ v w1 (by rw [List.length_map]; exact h) (by simp; omega) (Nat.le_trans (hexjoin_short l hl) (by decide))).mono fun e w' ⟨a, b⟩ => ⟨a, belowT hb b⟩
  obtain ⟨T, hT⟩ : ∃ T, T = hexJ l := ⟨_, rfl⟩
  rw [← hT] at HJ ⊢
  clear hT
  have HC : Hid (∀ w1, Below w.heap.size w w1 → ∀ (j n : Nat), l[j]? = some n → w1.cell? ⟨B, o + j, none⟩ = some (.int .u16 (n : Int))) := Lib.hid fun w1 hb j n h => cellB hb (hc j n h)
  have HLT := Lib.hid hlt
  clear ok hc hlt
  go_enter Tryd.func24, Tryd.ntmps24
  go_wp2_with fail
  go_loopw [3, 8, 5] (fun v3 v8 _ wr => ∃ k : Nat, k ≤ l.length ∧ v8 = .int .i64 k ∧ wr.ownsRow w.heap.size 9 1 v3 k (((l.take k).map hexS).map Value.string) ∧ Below w.heap.size w wr) (fun _ v8 _ _ => l.length - (intOf v8).toNat)
  case atStart => exact ⟨0, by omega, rfl, World.ownsRow_nil _ _ _ _, Below.refl _ _⟩
  case round =>
    obtain ⟨k, hk, rfl, hown, hb⟩ := hrel
    by_cases hlt : k < l.length
    · obtain ⟨n, hn⟩ : ∃ n, l[k]? = some n := ⟨l[k], List.getElem?_eq_getElem hlt⟩
      have hcell := HC.out wr hb k n hn
      have hn16 := HLT.out k n hn
      have hC := hF.out n wr hn16 hb
      have hz := hb.size
      have HN := Lib.hid hn
      clear hn
      go_wp2_with (first | (go_at_call 37; refine hC.mono ?_; rintro e w1 ⟨rfl, hb1⟩) | (at_builtin; refine append1 (w0 := w) w.heap.size rfl _ _ 39 9 (.string ByteArray.empty) 16 rfl Tryd.underlying39 hinfo.out rfl (by decide) _ (((l.take k).map hexS).map Value.string) (.string (hexS n)) rfl rfl rfl (by rw [List.length_map, List.length_map, List.length_take, Nat.min_eq_left hk]; exact own_below hown hb1) (belowT' hb hz hb1) (Nat.le_trans hz hb1.size) (by rw [List.length_map, List.length_map, List.length_take]; omega) ?_; intro v1 w2 hown2 hb2 hg2 hz2))
      go_roundw
      case rel =>
        refine ⟨k + 1, by omega, by go_num, ?_, hb2⟩
        rw [List.take_add_one, HN.out, List.map_append, List.map_append]
        simpa [Nat.min_eq_left hk] using hown2
      case measure => simp [intOf]; omega
    · have hk4 : k = l.length := by omega
      subst hk4
      rw [List.take_length] at hown
      have hJ := HJ.out _ wr hb hown
      go_wp2_with (go_at_call 16; refine hJ.mono ?_; rintro e w1 ⟨rfl, hb1⟩)
      go_ret
      exact ⟨rfl, hb1⟩
end Go.Proofs.YthdepnahbhheoaaDoor
