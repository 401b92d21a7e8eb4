/- Rows of eight pieces; what AddrApart's walk leans on -/
import Derived.Test.YthdepnahbhheoaaDoorPlD
namespace Go.Proofs.YthdepnahbhheoaaDoor
open Go.RowKit

def Row8 (w : World) (B : Nat) (a b c d e f g i : Nat) : Prop := w.cell? ⟨B, 0, none⟩ = some (.int .u16 a) ∧ w.cell? ⟨B, 1, none⟩ = some (.int .u16 b) ∧ w.cell? ⟨B, 2, none⟩ = some (.int .u16 c) ∧ w.cell? ⟨B, 3, none⟩ = some (.int .u16 d) ∧ w.cell? ⟨B, 4, none⟩ = some (.int .u16 e) ∧ w.cell? ⟨B, 5, none⟩ = some (.int .u16 f) ∧ w.cell? ⟨B, 6, none⟩ = some (.int .u16 g) ∧ w.cell? ⟨B, 7, none⟩ = some (.int .u16 i)
abbrev R8 (a b c d e f g i : Nat) : Obj := .cells #[.int .u16 a, .int .u16 b, .int .u16 c, .int .u16 d, .int .u16 e, .int .u16 f, .int .u16 g, .int .u16 i] 29
theorem Row8.new (w : World) (a b c d e f g i : Nat) : Row8 (w.alloc (R8 a b c d e f g i)) w.heap.size a b c d e f g i := by
  have h := Arr.new w (u16s [a, b, c, d, e, f, g, i]) 29
  exact ⟨(h 0 _ rfl).1, (h 1 _ rfl).1, (h 2 _ rfl).1, (h 3 _ rfl).1, (h 4 _ rfl).1, (h 5 _ rfl).1, (h 6 _ rfl).1, (h 7 _ rfl).1⟩
theorem Row8.below {w w' : World} {B a b c d e f g i : Nat} (h : Row8 w B a b c d e f g i) (hb : Below w.heap.size w w') : Row8 w' B a b c d e f g i := by
  obtain ⟨h0, h1, h2, h3, h4, h5, h6, h7⟩ := h
  exact ⟨cellB hb h0, cellB hb h1, cellB hb h2, cellB hb h3, cellB hb h4, cellB hb h5, cellB hb h6, cellB hb h7⟩
theorem text8 (a b c d e f g i : Nat) (hlt : ∀ n ∈ [a, b, c, d, e, f, g, i], n < 65536) (w : World) (ok : Ok2 w) :
    Calls Tryd.prog 12 #[.agg #[.int .u16 a, .int .u16 b, .int .u16 c, .int .u16 d, .int .u16 e, .int .u16 f, .int .u16 g, .int .u16 i]] w fun e1 w' => e1 = .returned (.string (textV6B [a, b, c, d, e, f, g, i])) ∧ Below w.heap.size w w' :=
  textV6_c [a, b, c, d, e, f, g, i] rfl (fun _ _ h => hlt _ (List.mem_of_getElem? h)) w ok
set_option maxRecDepth 100000 in
theorem v6_8 (s : ByteArray) (a b c d e f g i : Nat) (h : v6B s = some [a, b, c, d, e, f, g, i]) (hs : s.size < 4294967281) (w : World) (ok : Ok w) :
    Calls Tryd.prog 10 #[.string s] w fun e1 w' => e1 = .returned (.tuple #[.agg #[.int .u16 a, .int .u16 b, .int .u16 c, .int .u16 d, .int .u16 e, .int .u16 f, .int .u16 g, .int .u16 i], .int .i64 0]) ∧ Below w.heap.size w w' :=
  v6_ok s _ h hs w ok
set_option maxRecDepth 100000 in
theorem eq88 (a b c d e f g i a' b' c' d' e' f' g' i' : Nat) (W : World) :
    (binOp .eql 29 (.agg #[.int .u16 a, .int .u16 b, .int .u16 c, .int .u16 d, .int .u16 e, .int .u16 f, .int .u16 g, .int .u16 i]) (.agg #[.int .u16 a', .int .u16 b', .int .u16 c', .int .u16 d', .int .u16 e', .int .u16 f', .int .u16 g', .int .u16 i'])).run Tryd.prog W = .ok (.bool (decide ([a, b, c, d, e, f, g, i] = [a', b', c', d', e', f', g', i']))) W :=
  eq8 [a, b, c, d, e, f, g, i] [a', b', c', d', e', f', g', i'] rfl rfl W
theorem textV6_len (l : List Nat) (hl : l.length = 8) : (textV6B l).size ≤ 82 := by
  unfold textV6B
  split
  · decide
  · split
    · have := hexJ_short l (by omega); omega
    · have h1 := hexJ_short (l.take (gapS l).1) (by rw [List.length_take]; omega)
      have h2 := hexJ_short (l.drop (gapS l).2) (by rw [List.length_drop]; omega)
      rw [Lib.size_eq] at h1
      rw [Lib.size_eq] at h2
      rw [Lib.size_eq]
      simp only [List.length_append, List.length_cons, List.length_nil]; omega

end Go.Proofs.YthdepnahbhheoaaDoor
