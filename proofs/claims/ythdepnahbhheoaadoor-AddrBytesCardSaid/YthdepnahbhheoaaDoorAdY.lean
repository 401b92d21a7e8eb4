/- AddrBytes: the closures -/
import Derived.Test.YthdepnahbhheoaaDoorPlC
namespace Go.Proofs.YthdepnahbhheoaaDoor
open Go.RowKit

def lowD (d : Nat) : UInt8 := UInt8.ofNat (if d < 10 then 48 + d else 87 + d)
def greatD (d : Nat) : UInt8 := UInt8.ofNat (if d < 10 then 48 + d else 55 + d)
def hexT (x : Nat) : ByteArray := ⟨#[48, 120, lowD (x / 16), greatD (x % 16)]⟩
def octD (d : Nat) : UInt8 := UInt8.ofNat (48 + d)
def octT (x : Nat) : ByteArray := ⟨#[48, octD (x / 64), octD (x / 8 % 8), octD (x % 8)]⟩
theorem low_at (m : Nat) (h : m < 16) (h' : m < 16) : Utf8.encode (((({ data := #[48, 49, 50, 51, 52, 53, 54, 55, 56, 57, 97, 98, 99, 100, 101, 102] } : ByteArray)[m]'h').toNat : Nat) : Int) = ⟨#[lowD m]⟩ := by
  have h2 : ∀ k : Fin 16, Utf8.encode (((({ data := #[48, 49, 50, 51, 52, 53, 54, 55, 56, 57, 97, 98, 99, 100, 101, 102] } : ByteArray)[k.1]'k.2).toNat : Nat) : Int) = ⟨#[lowD k.1]⟩ := by decide +kernel
  exact h2 ⟨m, h⟩
theorem great_at (m : Nat) (h : m < 16) (h' : m < 16) : Utf8.encode (((({ data := #[48, 49, 50, 51, 52, 53, 54, 55, 56, 57, 65, 66, 67, 68, 69, 70] } : ByteArray)[m]'h').toNat : Nat) : Int) = ⟨#[greatD m]⟩ := by
  have h2 : ∀ k : Fin 16, Utf8.encode (((({ data := #[48, 49, 50, 51, 52, 53, 54, 55, 56, 57, 65, 66, 67, 68, 69, 70] } : ByteArray)[k.1]'k.2).toNat : Nat) : Int) = ⟨#[greatD k.1]⟩ := by decide +kernel
  exact h2 ⟨m, h⟩
theorem oct_at (m : Nat) (h : m < 8) (h' : m < 8) : Utf8.encode (((({ data := #[48, 49, 50, 51, 52, 53, 54, 55] } : ByteArray)[m]'h').toNat : Nat) : Int) = ⟨#[octD m]⟩ := by
  have h2 : ∀ k : Fin 8, Utf8.encode (((({ data := #[48, 49, 50, 51, 52, 53, 54, 55] } : ByteArray)[k.1]'k.2).toNat : Nat) : Int) = ⟨#[octD k.1]⟩ := by decide +kernel
  exact h2 ⟨m, h⟩
set_option maxRecDepth 100000 in
set_option maxHeartbeats 1000000 in
theorem hexC (x : Nat) (hx : x < 256) (w : World) :
    Calls Tryd.prog 13 #[.int .u8 (x : Int)] w fun e w' => e = .returned (.string (hexT x)) ∧ Below w.heap.size w w' := by
  have h1 : (x : Int) / 16 < 16 := by omega
  have h2 : (x : Int) % 16 < 16 := by omega
  have h3 : (0 : Int) ≤ (x : Int) / 16 := by omega
  have h4 : (0 : Int) ≤ (x : Int) % 16 := by omega
  have f1 := low_at (x / 16) (by omega)
  have f2 := great_at (x % 16) (by omega)
  go_enter Tryd.func13, Tryd.ntmps13
  go_wp2_with fail
  go_region
  go_wp2_with fail
  go_ret
  exact ⟨ret_val (congrArg Value.string (by apply ByteArray.ext; apply Array.ext'; simp [ByteArray.data_append, hexT])), (Below.refl _ _).drew⟩
theorem cat4 (a b c : UInt8) : (⟨#[48]⟩ : ByteArray) ++ ⟨#[a]⟩ ++ ⟨#[b]⟩ ++ ⟨#[c]⟩ = ⟨#[48, a, b, c]⟩ := by
  apply ByteArray.ext; apply Array.ext'; simp [ByteArray.data_append]
set_option maxRecDepth 100000 in
set_option maxHeartbeats 1000000 in
theorem octC (x : Nat) (hx : x < 256) (w : World) :
    Calls Tryd.prog 14 #[.int .u8 (x : Int)] w fun e w' => e = .returned (.string (octT x)) ∧ Below w.heap.size w w' := by
  have h1 : (x : Int) / 64 < 8 := by omega
  have h2 : (x : Int) / 8 % 8 < 8 := by omega
  have h3 : (0 : Int) ≤ (x : Int) / 64 := by omega
  have h4 : (0 : Int) ≤ (x : Int) / 8 % 8 := by omega
  have h5 : (x : Int) % 8 < 8 := by omega
  have h6 : (0 : Int) ≤ (x : Int) % 8 := by omega
  have h7 : (0 : Int) ≤ (x : Int) / 8 := by omega
  have h8 : (x : Int) / 8 ≤ 255 := by omega
  have f1 := oct_at (x / 64) (by omega)
  have f2 := oct_at (x / 8 % 8) (by omega)
  have f3 := oct_at (x % 8) (by omega)
  go_enter Tryd.func14, Tryd.ntmps14
  go_wp2_with fail
  go_region
  go_wp2_with fail
  go_ret
  exact ⟨ret_val (congrArg Value.string (cat4 _ _ _)), (Below.refl _ _).drew⟩
end Go.Proofs.YthdepnahbhheoaaDoor
