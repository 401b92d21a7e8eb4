/- addr.V6 -/
import Derived.Test.YthdepnahbhheoaaDoorAdM
import Derived.Laws.CopyOwn
namespace Go.Proofs.YthdepnahbhheoaaDoor
open Go.RowKit

abbrev scc : ByteArray := ⟨#[58, 58]⟩
def aheadB (s : ByteArray) : ByteArray := ⟨(Lib.cut s.data.toList [58, 58]).1.toArray⟩
def behindB (s : ByteArray) : ByteArray := ⟨(Lib.cut s.data.toList [58, 58]).2.1.toArray⟩
def gapB (s : ByteArray) : Bool := (Lib.cut s.data.toList [58, 58]).2.2
/-- An address of version 6. -/
def v6B (s : ByteArray) : Option (List Nat) :=
  match piecesS (aheadB s) (!gapB s), piecesS (behindB s) true with
  | some a, some b =>
    if (gapB s = true ∧ 7 < a.length + b.length) ∨ (gapB s = false ∧ a.length ≠ 8) then none
    else some (splice (splice (List.replicate 8 0) 0 a) (8 - b.length) b)
  | _, _ => none
theorem cut_c (s : ByteArray) (hs : s.size < 4294967281) (w : World) (ok : Ok w) :
    Calls Tryd.prog 19 #[.string s, .string scc] w fun e w' => e = .returned (.tuple #[.string (aheadB s), .string (behindB s), .bool (gapB s)]) ∧ Below w.heap.size w w' := by
  obtain ⟨m, hm⟩ := ok.maxLen
  exact (Tryd.strings_Cut s scc m w hs hm).mono fun e w' ⟨a, n, b⟩ => ⟨a, b ▸ below_drewN (Below.refl _ _) n⟩
theorem cut_le (l sep : List UInt8) : (Lib.cut l sep).1.length ≤ l.length ∧ (Lib.cut l sep).2.1.length ≤ l.length := by
  unfold Lib.cut
  split
  · simp; omega
  · simp
theorem ahead_le (s : ByteArray) : (aheadB s).size ≤ s.size := by
  rw [Lib.size_eq, Lib.size_eq s]; exact (cut_le s.data.toList [58, 58]).1
theorem behind_le (s : ByteArray) : (behindB s).size ≤ s.size := by
  rw [Lib.size_eq, Lib.size_eq s]; exact (cut_le s.data.toList [58, 58]).2
theorem behind_nogap (s : ByteArray) (h : gapB s = false) : piecesS (behindB s) true = some [] := by
  unfold gapB Lib.cut at h
  split at h
  · cases h
  · rename_i h'
    have : (behindB s).size = 0 := by unfold behindB Lib.cut; rw [if_neg h']; rfl
    unfold piecesS; rw [if_pos this]

theorem pGo_len (en : Bool) : ∀ (ps : List ByteArray) (out l : List Nat), pGo en out ps = some l → l.length ≤ out.length + ps.length + 1
  | [], out, l, h => by simp only [pGo, Option.some.injEq] at h; subst h; simp
  | p :: r, out, l, h => by
    rw [pGo] at h
    split at h
    · simp only [Option.some.injEq] at h; subst h; simp
    · split at h
      · have := pGo_len en r _ l h; simp at this ⊢; omega
      · cases h
theorem piecesS_len (s : ByteArray) (en : Bool) (l : List Nat) (h : piecesS s en = some l) : l.length ≤ s.size + 2 := by
  unfold piecesS at h
  split at h
  · simp only [Option.some.injEq] at h; subst h; simp
  · have := pGo_len en _ _ l h; have := colsB_le s; simp at *; omega

/-- copy of a slice (nil, empty or not) into a row that is known whole. -/
theorem copyRow {P : Program} {W : World} {ops : Array Oper} {rest : List Oper} {o : Oper} {a : Act} {Q : Exit → Act → World → Prop} (hgd : o.guard = none) (d s : Operand) (dT sT : TypeId)
    (ho : o.op = .call { callee := .builtin .copy, args := #[d, s], argTypes := #[dT, sT] }) (elem : TypeId) (hu : P.underlying dT = some (.slice elem)) (hsz : (P.info? elem).map (·.size) = some 1)
    (dp : Option Addr) (dLen dCap : Nat) (v : Value) (cs : List Value) (base g off : Nat) (hd : a.eval d = .slice dp dLen dCap) (hs : a.eval s = v) (hown : W.ownsRow base elem 1 v cs.length cs)
    (cur : List Value) (t : TypeId) (hg : W.heap[g]? = some (.cells cur.toArray t (0, 0))) (hle : cs.length ≤ dLen) (hpos : 0 < cs.length → dp = some ⟨g, off, none⟩) (hfit : off + cs.length ≤ cur.length) (h1 : ∀ v ∈ cs, v.oneCell' = true)
    (h : ∀ w', w'.heap[g]? = some (.cells (splice cur off cs).toArray t (0, 0)) → W.grownBy w' (some g) → w'.heap.size = W.heap.size → wpList P ops Q rest (a.put o.dst (goInt cs.length)) w') :
    wpList P ops Q (o :: rest) a W := by
  by_cases h0 : cs.length = 0
  · obtain rfl : cs = [] := List.eq_nil_of_length_eq_zero h0
    have hv : ∃ p c, v = .slice p 0 c := by
      rcases hown.2 with ⟨rfl, _⟩ | ⟨g', cap, _, rfl, _⟩
      · exact ⟨none, 0, rfl⟩
      · exact ⟨_, cap, rfl⟩
    obtain ⟨p, c, rfl⟩ := hv
    refine wpList_copy_nothing hgd d s dT sT ho elem hu hsz dp p dLen dCap 0 c hd hs (by simp) ?_
    exact h W (by simpa [splice] using hg) (World.grownBy.refl _ _) rfl
  · obtain ⟨g', cap, rfl, _, _, _, hc⟩ := own_cells hown (by omega)
    obtain rfl := hpos (by omega)
    refine wpList_copy_own hgd d s dT sT ho elem hu hsz g off dLen dCap ⟨g', 0, none⟩ cs.length cap hd hs cur.toArray t hg cs (by simp [Nat.min_def]; omega) (fun j u hj => by rw [addP]; exact hc j u hj) (by simpa using hfit) h1 ?_
    refine h _ ?_ ⟨rfl, rfl, rfl, by simp [World.setRow], fun k hk hne => setRow_other W g k _ (fun e => hne (by rw [e]))⟩ (by simp [World.setRow])
    rw [setRow_heap W g _ _ t _ hg]; simp [splice]

theorem slice8 (B m : Nat) (hm : m < 8) (W : World) : (Instr.sliceAt 29 (.pointer (some ⟨B, 0, none⟩)) (some (.int .i64 (m : Int))) none none).run Tryd.prog W = .ok (.slice (some ⟨B, m, none⟩) (8 - m) (8 - m)) W := by
  have hl : Tryd.prog.arrayLen 29 = 8 := by kernel_rfl
  have he : Tryd.prog.elem 29 = 28 := by kernel_rfl
  have ht : Tryd.prog.underlying 29 = some (.array (Tryd.prog.arrayLen 29) (Tryd.prog.elem 29)) := by rw [hl, he]; kernel_rfl
  rw [run_sliceAt_array_l W 29 ⟨B, 0, none⟩ ht .i64 (m : Int) (by omega) (by rw [hl]; omega), hl, he]
  simp only [Tryd.sizeOf28, Result.andThen, slicedAt, Int.toNat_natCast]
  rw [if_neg (by omega)]
  simp [Addr.add]
  intro h; exact h.symm
theorem Arr.grown {w w' : World} {b : Nat} {l : List Value} {row : Option Nat} (h : Arr w b l) (hg : w.grownBy w' row) (hne : some b ≠ row) : Arr w' b l := fun j v hj => by
  obtain ⟨h1, h2⟩ := h j v hj
  have hb := hg.block b (World.block_lt_of_cell? w _ h1) hne
  exact ⟨(World.cell?_of_block hb).trans h1, by unfold World.frozen? at h2 ⊢; rw [hb]; exact h2⟩
theorem row_cell {w : World} {g : Nat} {l : List Value} {t : TypeId} {fr : Nat × Nat} (h : w.heap[g]? = some (.cells l.toArray t fr)) (j : Nat) (v : Value) (hj : l[j]? = some v) : w.cell? ⟨g, j, none⟩ = some v := by
  unfold World.cell?; rw [h]; simpa using hj
theorem u16s_splice (l : List Nat) (o : Nat) (c : List Nat) : u16s (splice l o c) = splice (u16s l) o (u16s c) := by
  simp [u16s, splice]
def V6Post (r : Option (List Nat)) (w : World) (e : Ending) (w' : World) : Prop :=
  (match r with
    | some l => e = .returned (.tuple #[.agg (u16s l).toArray, .int .i64 0])
    | none => e = .returned (.tuple #[.agg (u16s (List.replicate 8 0)).toArray, .int .i64 17])) ∧ Below w.heap.size w w'

def z8 : List Value := u16s (List.replicate 8 0)
abbrev Z8 : Obj := .cells #[.int .u16 0, .int .u16 0, .int .u16 0, .int .u16 0, .int .u16 0, .int .u16 0, .int .u16 0, .int .u16 0] 29
/-- The world in which V6 has laid its three rows. -/
structure Laid3 (w W : World) : Prop where
  below : Below w.heap.size w W
  size : W.heap.size = w.heap.size + 3
  a0 : Arr W w.heap.size z8
  a1 : Arr W (w.heap.size + 1) z8
  h2 : W.heap[w.heap.size + 2]? = some (.cells z8.toArray 29 (0, 0))
theorem laid3 (w : World) : Laid3 w (((w.alloc Z8).alloc Z8).alloc Z8) := by
  have e1 : (w.alloc Z8).heap.size = w.heap.size + 1 := by simp
  have e2 : ((w.alloc Z8).alloc Z8).heap.size = w.heap.size + 2 := by simp
  have n0 : Arr (w.alloc Z8) w.heap.size z8 := Arr.new w z8 _
  have n1 : Arr ((w.alloc Z8).alloc Z8) (w.heap.size + 1) z8 := e1 ▸ Arr.new (w.alloc Z8) z8 _
  refine ⟨(((Below.refl _ _).alloc (Nat.le_refl _) _).alloc (by simp) _).alloc (by simp; omega) _, by simp, ?_, ?_, ?_⟩
  · exact (n0.below ((Below.refl _ _).alloc (Nat.le_refl _) _)).below ((Below.refl _ _).alloc (Nat.le_refl _) _)
  · exact n1.below ((Below.refl _ _).alloc (Nat.le_refl _) _)
  · have := heap_alloc_new ((w.alloc Z8).alloc Z8) Z8
    rw [e2] at this; exact this

theorem list8 {α : Type} (l : List α) (h : l.length = 8) : ∃ a b c d e f g i, l = [a, b, c, d, e, f, g, i] := by
  match l, h with
  | [a, b, c, d, e, f, g, i], _ => exact ⟨a, b, c, d, e, f, g, i, rfl⟩
/-- What V6 hands back: the row in its first slot, the number in its second. -/
theorem v6_results (tmps : Array Value) (w : World) (B : Nat) (l : List Nat) (hl : l.length = 8) (n : Int) (h2 : tmps.getD 2 undef = .pointer (some ⟨B, 0, none⟩)) (h3 : tmps.getD 3 undef = .int .i64 n) (ha : Arr w B (u16s l)) :
    (results Tryd.f10 tmps).run Tryd.prog w = .ok (.tuple #[.agg (u16s l).toArray, .int .i64 n]) w := by
  obtain ⟨a, b, c, d, e, f, g, i, rfl⟩ := list8 l hl
  have y0 := (ha 0 _ rfl).1
  have y1 := (ha 1 _ rfl).1
  have y2 := (ha 2 _ rfl).1
  have y3 := (ha 3 _ rfl).1
  have y4 := (ha 4 _ rfl).1
  have y5 := (ha 5 _ rfl).1
  have y6 := (ha 6 _ rfl).1
  have y7 := (ha 7 _ rfl).1
  simp only [Array.getD_eq_getD_getElem?] at h2 h3
  simp [results, Tryd.results10, go_sem, h2, h3, u16s, y0, y1, y2, y3, y4, y5, y6, y7]
theorem below8 {w0 w : World} {B : Nat} (h : Below B w0 w) (a b c d e f g i : Value) :
    Below B w0 ((((((((w.setCell ⟨B, 0, none⟩ a).setCell ⟨B, 1, none⟩ b).setCell ⟨B, 2, none⟩ c).setCell ⟨B, 3, none⟩ d).setCell ⟨B, 4, none⟩ e).setCell ⟨B, 5, none⟩ f).setCell ⟨B, 6, none⟩ g).setCell ⟨B, 7, none⟩ i) :=
  (((((((h.setCell (p := ⟨B, 0, none⟩) (Nat.le_refl _) _).setCell (p := ⟨B, 1, none⟩) (Nat.le_refl _) _).setCell (p := ⟨B, 2, none⟩) (Nat.le_refl _) _).setCell (p := ⟨B, 3, none⟩) (Nat.le_refl _) _).setCell (p := ⟨B, 4, none⟩) (Nat.le_refl _) _).setCell (p := ⟨B, 5, none⟩) (Nat.le_refl _) _).setCell (p := ⟨B, 6, none⟩) (Nat.le_refl _) _).setCell (p := ⟨B, 7, none⟩) (Nat.le_refl _) _
theorem store8 {w : World} {B : Nat} {l : List Value} (h : Arr w B l) (hl : l.length = 8) (a b c d e f g i : Nat) :
    Arr ((((((((w.setCell ⟨B, 0, none⟩ (.int .u16 a)).setCell ⟨B, 1, none⟩ (.int .u16 b)).setCell ⟨B, 2, none⟩ (.int .u16 c)).setCell ⟨B, 3, none⟩ (.int .u16 d)).setCell ⟨B, 4, none⟩ (.int .u16 e)).setCell ⟨B, 5, none⟩ (.int .u16 f)).setCell ⟨B, 6, none⟩ (.int .u16 g)).setCell ⟨B, 7, none⟩ (.int .u16 i)) B (u16s [a, b, c, d, e, f, g, i]) := by
  obtain ⟨x0, x1, x2, x3, x4, x5, x6, x7, rfl⟩ := list8 l hl
  exact (((((((h.set 0 _).set 1 _).set 2 _).set 3 _).set 4 _).set 5 _).set 6 _).set 7 _

set_option maxHeartbeats 1000000 in
set_option maxRecDepth 100000 in
theorem v6_c (s : ByteArray) (hs : s.size < 4294967281) (w : World) (ok : Ok w) :
    Calls Tryd.prog 10 #[.string s] w (V6Post (v6B s) w) := by
  have hC : ∀ w1, Below w.heap.size w w1 → Calls Tryd.prog 19 #[.string s, .string scc] w1 fun e w' => e = .returned (.tuple #[.string (aheadB s), .string (behindB s), .bool (gapB s)]) ∧ Below w1.heap.size w1 w' :=
    fun w1 hb => cut_c s hs w1 (ok.below hb)
  have hP1 : ∀ w1, Below w.heap.size w w1 → Calls Tryd.prog 20 #[.string (aheadB s), .bool (!gapB s)] w1 (PiecePost (piecesS (aheadB s) (!gapB s)) w1) :=
    fun w1 hb => pieces_c _ _ (by have := ahead_le s; omega) w1 (ok.below hb)
  have hP2 : ∀ w1, Below w.heap.size w w1 → Calls Tryd.prog 20 #[.string (behindB s), .bool true] w1 (PiecePost (piecesS (behindB s) true) w1) :=
    fun w1 hb => pieces_c _ _ (by have := behind_le s; omega) w1 (ok.below hb)
  have hng := behind_nogap s
  have hla : ∀ a, piecesS (aheadB s) (!gapB s) = some a → a.length ≤ s.size + 2 := fun a h => by
    have := piecesS_len _ _ _ h; have := ahead_le s; omega
  have hlb : ∀ a, piecesS (behindB s) true = some a → a.length ≤ s.size + 2 := fun a h => by
    have := piecesS_len _ _ _ h; have := behind_le s; omega
  obtain ⟨R, hR⟩ : ∃ R, R = v6B s := ⟨_, rfl⟩
  rw [← hR]
  unfold v6B at hR
  clear ok
  generalize piecesS (aheadB s) (!gapB s) = ra at *
  generalize piecesS (behindB s) true = rb at *
  generalize aheadB s = sa at *
  generalize behindB s = sb at *
  generalize gapB s = gp at *
  have L3 := laid3 w
  have HR := Lib.hid hR
  have HNG := Lib.hid hng
  have HLA := Lib.hid hla
  have HLB := Lib.hid hlb
  clear hR hng hla hlb
  go_enter Tryd.func10, Tryd.ntmps10
  go_wp2_with fail
  generalize ((w.alloc Z8).alloc Z8).alloc Z8 = W at *
  obtain ⟨hbW, hzW, a0, a1, h2⟩ := L3
  refine (hC W hbW).mono ?_
  rintro e w1 ⟨rfl, hb1⟩
  go_wp2_with fail
  -- BEGIN
  refine (hP1 w1 (belowT hbW hb1)).mono ?_
  have fin : ∀ w2 w3, Below w1.heap.size w1 w2 → Below w2.heap.size w2 w3 → Below W.heap.size W w3 := fun w2 w3 h2 h => belowT hb1 (belowT h2 h)
  have q0 : ∀ w2 w3, Below w1.heap.size w1 w2 → Below w2.heap.size w2 w3 → Hid (Arr w3 w.heap.size z8 ∧ Arr w3 (w.heap.size + 1) z8) := fun w2 w3 h2 h => Lib.hid ⟨a0.below (fin w2 w3 h2 h), a1.below (fin w2 w3 h2 h)⟩
  have H2 := Lib.hid h2
  have A0 := Lib.hid a0
  clear a0 a1 h2 hC hP1
  cases ra with
  | none =>
    rintro e w2 ⟨rfl, hb2⟩
    have q0 := fun w3 h => q0 w2 w3 hb2 h
    go_wp2_with fail
    refine (hP2 w2 (belowT hbW (belowT hb1 hb2))).mono ?_
    obtain rfl : R = none := by rw [HR.out]
    clear hP2
    cases rb with
    | none =>
      rintro e w3 ⟨rfl, hb3⟩
      obtain ⟨x0, x1⟩ := (q0 w3 hb3).out
      have y0 := x1 0 _ rfl
      have y1 := x1 1 _ rfl
      have y2 := x1 2 _ rfl
      have y3 := x1 3 _ rfl
      have y4 := x1 4 _ rfl
      have y5 := x1 5 _ rfl
      have y6 := x1 6 _ rfl
      have y7 := x1 7 _ rfl
      have u0 := x0 0 _ rfl
      have u1 := x0 1 _ rfl
      have u2 := x0 2 _ rfl
      have u3 := x0 3 _ rfl
      have u4 := x0 4 _ rfl
      have u5 := x0 5 _ rfl
      have u6 := x0 6 _ rfl
      have u7 := x0 7 _ rfl
      have hS := store8 x0 rfl 0 0 0 0 0 0 0 0
      have HS8 := Lib.hid hS
      clear x0 x1 q0 hS
      go_wp2_with fail
      refine bodyPost_ret (v6_results _ _ w.heap.size (List.replicate 8 0) rfl 17 rfl rfl HS8.out) rfl ⟨rfl, ?_⟩
      exact below8 (belowT hbW (belowT hb1 (belowT hb2 hb3))) _ _ _ _ _ _ _ _
    | some b =>
      rintro e w3 ⟨⟨vb, rfl, hownb⟩, hb3⟩
      clear hownb
      obtain ⟨x0, x1⟩ := (q0 w3 hb3).out
      have y0 := x1 0 _ rfl
      have y1 := x1 1 _ rfl
      have y2 := x1 2 _ rfl
      have y3 := x1 3 _ rfl
      have y4 := x1 4 _ rfl
      have y5 := x1 5 _ rfl
      have y6 := x1 6 _ rfl
      have y7 := x1 7 _ rfl
      have u0 := x0 0 _ rfl
      have u1 := x0 1 _ rfl
      have u2 := x0 2 _ rfl
      have u3 := x0 3 _ rfl
      have u4 := x0 4 _ rfl
      have u5 := x0 5 _ rfl
      have u6 := x0 6 _ rfl
      have u7 := x0 7 _ rfl
      have hS := store8 x0 rfl 0 0 0 0 0 0 0 0
      have HS8 := Lib.hid hS
      clear x0 x1 q0 hS
      go_wp2_with fail
      refine bodyPost_ret (v6_results _ _ w.heap.size (List.replicate 8 0) rfl 17 rfl rfl HS8.out) rfl ⟨rfl, ?_⟩
      exact below8 (belowT hbW (belowT hb1 (belowT hb2 hb3))) _ _ _ _ _ _ _ _
  | some a =>
    rintro e w2 ⟨⟨va, rfl, howna⟩, hb2⟩
    obtain ⟨pa, ca, rfl⟩ := own_slice howna
    have q0 := fun w3 h => q0 w2 w3 hb2 h
    go_wp2_with fail
    refine (hP2 w2 (belowT hbW (belowT hb1 hb2))).mono ?_
    clear hP2
    cases rb with
    | none =>
      rintro e w3 ⟨rfl, hb3⟩
      obtain rfl : R = none := by rw [HR.out]
      clear howna
      obtain ⟨x0, x1⟩ := (q0 w3 hb3).out
      have y0 := x1 0 _ rfl
      have y1 := x1 1 _ rfl
      have y2 := x1 2 _ rfl
      have y3 := x1 3 _ rfl
      have y4 := x1 4 _ rfl
      have y5 := x1 5 _ rfl
      have y6 := x1 6 _ rfl
      have y7 := x1 7 _ rfl
      have u0 := x0 0 _ rfl
      have u1 := x0 1 _ rfl
      have u2 := x0 2 _ rfl
      have u3 := x0 3 _ rfl
      have u4 := x0 4 _ rfl
      have u5 := x0 5 _ rfl
      have u6 := x0 6 _ rfl
      have u7 := x0 7 _ rfl
      have hS := store8 x0 rfl 0 0 0 0 0 0 0 0
      have HS8 := Lib.hid hS
      clear x0 x1 q0 hS
      go_wp2_with fail
      refine bodyPost_ret (v6_results _ _ w.heap.size (List.replicate 8 0) rfl 17 rfl rfl HS8.out) rfl ⟨rfl, ?_⟩
      exact below8 (belowT hbW (belowT hb1 (belowT hb2 hb3))) _ _ _ _ _ _ _ _
    | some b =>
      rintro e w3 ⟨⟨vb, rfl, hownb⟩, hb3⟩
      obtain ⟨pb, cb, rfl⟩ := own_slice hownb
      have hla := HLA.out a rfl
      have hlb := HLB.out b rfl
      have hcase : (gp = true ∧ 7 < a.length + b.length) ∨ (gp = true ∧ a.length + b.length ≤ 7) ∨ (gp = false ∧ a.length ≠ 8) ∨ (gp = false ∧ a.length = 8 ∧ b = []) := by
        cases gp
        · have := HNG.out rfl
          simp only [Option.some.injEq] at this
          by_cases h8 : a.length = 8
          · exact .inr (.inr (.inr ⟨rfl, h8, this⟩))
          · exact .inr (.inr (.inl ⟨rfl, h8⟩))
        · by_cases h7 : 7 < a.length + b.length
          · exact .inl ⟨rfl, h7⟩
          · exact .inr (.inl ⟨rfl, by omega⟩)
      rcases hcase with ⟨rfl, h7⟩ | ⟨rfl, h7⟩ | ⟨rfl, h8⟩ | ⟨rfl, h8, rfl⟩
      · obtain rfl : R = none := by rw [HR.out]; simp [h7]
        clear howna hownb
        obtain ⟨x0, x1⟩ := (q0 w3 hb3).out
        have y0 := x1 0 _ rfl
        have y1 := x1 1 _ rfl
        have y2 := x1 2 _ rfl
        have y3 := x1 3 _ rfl
        have y4 := x1 4 _ rfl
        have y5 := x1 5 _ rfl
        have y6 := x1 6 _ rfl
        have y7 := x1 7 _ rfl
        have u0 := x0 0 _ rfl
        have u1 := x0 1 _ rfl
        have u2 := x0 2 _ rfl
        have u3 := x0 3 _ rfl
        have u4 := x0 4 _ rfl
        have u5 := x0 5 _ rfl
        have u6 := x0 6 _ rfl
        have u7 := x0 7 _ rfl
        have hS := store8 x0 rfl 0 0 0 0 0 0 0 0
        have HS8 := Lib.hid hS
        clear x0 x1 q0 hS
        go_wp2_with fail
        refine bodyPost_ret (v6_results _ _ w.heap.size (List.replicate 8 0) rfl 17 rfl rfl HS8.out) rfl ⟨rfl, ?_⟩
        exact below8 (belowT hbW (belowT hb1 (belowT hb2 hb3))) _ _ _ _ _ _ _ _
      · have h7' : (a.length : Int) + (b.length : Int) ≤ 7 := by omega
        have hn : ¬ (a.length = 8 ∧ 7 < a.length + b.length) := by omega
        by_cases hb0 : b.length = 0
        · obtain rfl : b = [] := List.eq_nil_of_length_eq_zero hb0
          have hRn : R = some (splice (splice (List.replicate 8 0) 0 a) 8 []) := HR.out.trans (if_neg (by simp; omega))
          have hz3 : w3.heap.size ≥ w.heap.size + 3 := by have := hb1.size; have := hb2.size; have := hb3.size; omega
          have hH3 : w3.heap[w.heap.size + 1 + 1]? = some (.cells z8.toArray 29 (0, 0)) := ((fin w2 w3 hb2 hb3).block (w.heap.size + 1 + 1) (by omega)).trans H2.out
          have oa : w3.ownsRow w1.heap.size 28 1 (.slice pa a.length ca) (u16s a).length (u16s a) := by rw [u16s_length]; exact own_below howna hb3
          have ob : w3.ownsRow w2.heap.size 28 1 (.slice pb 0 cb) 0 [] := hownb
          have A3 : Hid (Arr w3 w.heap.size z8) := Lib.hid (A0.out.below (fin w2 w3 hb2 hb3))
          have OA := Lib.hid oa
          have OB := Lib.hid ob
          have HH3 := Lib.hid hH3
          have hsz1 := hb1.size
          have hsz2 := hb2.size
          have OB4 : ∀ w4, w3.grownBy w4 (some (w.heap.size + 1 + 1)) → w4.ownsRow w2.heap.size 28 1 (.slice pb 0 cb) 0 [] := fun w4 h =>
            OB.out.kept h (by
              rcases OB.out.2 with ⟨h1, _⟩ | ⟨g, cap, cur, h1, hg, _⟩
              · left; rw [h1]; rfl
              · right; rw [h1]; intro e; injection e with e; simp at e; omega)
          have hR8 : (splice (splice (List.replicate 8 0) 0 a) 8 []).length = 8 := by simp [splice]; omega
          have HRN := Lib.hid hRn
          clear q0 howna hownb oa ob hH3 hRn
          go_wp2_with (first | ((with_reducible (show wpList _ _ _ (⟨some 61, _, _, _, _, _⟩ :: _) _ _)); refine copyRow rfl _ _ _ _ rfl 28 Tryd.underlying48 (by kernel_rfl) _ 8 8 _ (u16s a) w1.heap.size (w.heap.size + 1 + 1) 0 rfl rfl OA.out z8 29 HH3.out (by rw [u16s_length]; omega) (fun _ => rfl) (by rw [u16s_length]; show 0 + a.length ≤ 8; omega) (by simp [u16s, Value.oneCell']) ?_; intro w4 hH4 hg4 hz4) | ((with_reducible (show wpList _ _ _ (⟨some 67, _, _, _, _, _⟩ :: _) _ _)); refine copyRow rfl _ _ _ _ rfl 28 Tryd.underlying48 (by kernel_rfl) _ _ _ _ [] w2.heap.size (w.heap.size + 1 + 1) 8 rfl rfl (OB4 _ hg4) (splice z8 0 (u16s a)) 29 hH4 (Nat.zero_le _) (fun h => absurd h (Nat.lt_irrefl 0)) ?hfit (by simp) ?_))
          case hfit => simp [splice, u16s_length, z8]; omega
          intro w5 hH5 hg5 hz5
          have A5 : Arr w5 w.heap.size z8 := A3.out.grown (World.grownBy.trans hg4 hg5) (fun e => by injection e; omega)
          have hB5 : Below w.heap.size w w5 := (belowT hbW (belowT hb1 (belowT hb2 hb3))).grown (World.grownBy.trans hg4 hg5) (by omega) (fun k hk => by injection hk; omega)
          obtain ⟨n0, n1, n2, n3, n4, n5, n6, n7, hDD⟩ := list8 _ hR8
          have hH5' : w5.heap[w.heap.size + 1 + 1]? = some (.cells (u16s [n0, n1, n2, n3, n4, n5, n6, n7]).toArray 29 (0, 0)) := by
            rw [hH5, ← hDD, u16s_splice, u16s_splice, show splice (splice (u16s (List.replicate 8 0)) 0 (u16s a)) 8 (u16s []) = splice (splice z8 0 (u16s a)) 8 [] from rfl]
          have hRn := HRN.out
          rw [hDD] at hRn
          obtain rfl := hRn
          have y0 := row_cell hH5' 0 _ rfl
          have y1 := row_cell hH5' 1 _ rfl
          have y2 := row_cell hH5' 2 _ rfl
          have y3 := row_cell hH5' 3 _ rfl
          have y4 := row_cell hH5' 4 _ rfl
          have y5 := row_cell hH5' 5 _ rfl
          have y6 := row_cell hH5' 6 _ rfl
          have y7 := row_cell hH5' 7 _ rfl
          have u0 := A5 0 _ rfl
          have u1 := A5 1 _ rfl
          have u2 := A5 2 _ rfl
          have u3 := A5 3 _ rfl
          have u4 := A5 4 _ rfl
          have u5 := A5 5 _ rfl
          have u6 := A5 6 _ rfl
          have u7 := A5 7 _ rfl
          have hS := store8 A5 rfl n0 n1 n2 n3 n4 n5 n6 n7
          have HS8 := Lib.hid hS
          clear hS A5 hH5 hH5' hDD hH4 hR8 hg4 hg5
          go_wp2_with fail
          refine bodyPost_ret (v6_results _ _ w.heap.size [n0, n1, n2, n3, n4, n5, n6, n7] rfl 0 rfl rfl HS8.out) rfl ⟨rfl, ?_⟩
          exact below8 hB5 _ _ _ _ _ _ _ _
        · skip
          have hz3 : w3.heap.size ≥ w.heap.size + 3 := by have := hb1.size; have := hb2.size; have := hb3.size; omega
          have hH3 : w3.heap[w.heap.size + 1 + 1]? = some (.cells z8.toArray 29 (0, 0)) := ((fin w2 w3 hb2 hb3).block (w.heap.size + 1 + 1) (by omega)).trans H2.out
          have oa : w3.ownsRow w1.heap.size 28 1 (.slice pa a.length ca) (u16s a).length (u16s a) := by rw [u16s_length]; exact own_below howna hb3
          have ob : w3.ownsRow w2.heap.size 28 1 (.slice pb b.length cb) (u16s b).length (u16s b) := by rw [u16s_length]; exact hownb
          have A3 : Hid (Arr w3 w.heap.size z8) := Lib.hid (A0.out.below (fin w2 w3 hb2 hb3))
          have OA := Lib.hid oa
          have OB := Lib.hid ob
          have HH3 := Lib.hid hH3
          have hsz1 := hb1.size
          have hsz2 := hb2.size
          have OB4 : ∀ w4, w3.grownBy w4 (some (w.heap.size + 1 + 1)) → w4.ownsRow w2.heap.size 28 1 (.slice pb b.length cb) (u16s b).length (u16s b) := fun w4 h =>
            OB.out.kept h (by
              rcases OB.out.2 with ⟨h1, _⟩ | ⟨g, cap, cur, h1, hg, _⟩
              · left; rw [h1]; rfl
              · right; rw [h1]; intro e; injection e with e; simp at e; omega)
          have hR8 : (splice (splice (List.replicate 8 0) 0 a) (8 - b.length) b).length = 8 := by simp [splice]; omega
          have hRn : R = some (splice (splice (List.replicate 8 0) 0 a) (8 - b.length) b) := HR.out.trans (if_neg (by simp; omega))
          have HRN := Lib.hid hRn
          obtain ⟨m, hm⟩ : ∃ m, m + b.length = 8 := ⟨8 - b.length, by omega⟩
          have hsub : (8 : Int) - (b.length : Int) = (m : Int) := by omega
          have hm8 : m ≤ 8 := by omega
          clear q0 howna hownb oa ob hH3 hRn
          have hmlt : m < 8 := by omega
          have hsl : ∀ W4, (Instr.sliceAt 29 (.pointer (some ⟨w.heap.size + 1 + 1, 0, none⟩)) (some (.int .i64 (m : Int))) none none).run Tryd.prog W4 = .ok (.slice (some ⟨w.heap.size + 1 + 1, m, none⟩) b.length b.length) W4 := fun W4 => by
            have hbm : b.length = 8 - m := by omega
            rw [hbm]; exact slice8 _ m hmlt W4
          clear hb0
          go_wp2_with (first | ((with_reducible (show wpList _ _ _ (⟨some 61, _, _, _, _, _⟩ :: _) _ _)); refine copyRow rfl _ _ _ _ rfl 28 Tryd.underlying48 (by kernel_rfl) _ 8 8 _ (u16s a) w1.heap.size (w.heap.size + 1 + 1) 0 rfl rfl OA.out z8 29 HH3.out (by rw [u16s_length]; omega) (fun _ => rfl) (by rw [u16s_length]; show 0 + a.length ≤ 8; omega) (by simp [u16s, Value.oneCell']) ?_; intro w4 hH4 hg4 hz4) | ((with_reducible (show wpList _ _ _ (⟨some 67, _, _, _, _, _⟩ :: _) _ _)); refine copyRow rfl _ _ _ _ rfl 28 Tryd.underlying48 (by kernel_rfl) _ _ _ _ (u16s b) w2.heap.size (w.heap.size + 1 + 1) m rfl rfl (OB4 _ hg4) (splice z8 0 (u16s a)) 29 hH4 ?hle (fun _ => ?hp) ?hfit (by simp [u16s, Value.oneCell']) ?_))
          case hle => rw [u16s_length]; exact Nat.le_refl _
          case hp => rfl
          case hfit => rw [u16s_length]; simp [splice, u16s_length, z8]; omega
          intro w5 hH5 hg5 hz5
          have A5 : Arr w5 w.heap.size z8 := A3.out.grown (World.grownBy.trans hg4 hg5) (fun e => by injection e; omega)
          have hB5 : Below w.heap.size w w5 := (belowT hbW (belowT hb1 (belowT hb2 hb3))).grown (World.grownBy.trans hg4 hg5) (by omega) (fun k hk => by injection hk; omega)
          obtain ⟨n0, n1, n2, n3, n4, n5, n6, n7, hDD⟩ := list8 _ hR8
          have hH5' : w5.heap[w.heap.size + 1 + 1]? = some (.cells (u16s [n0, n1, n2, n3, n4, n5, n6, n7]).toArray 29 (0, 0)) := by
            rw [hH5, ← hDD, u16s_splice, u16s_splice, show 8 - b.length = m from by omega]; rfl
          have hRn := HRN.out
          rw [hDD] at hRn
          obtain rfl := hRn
          have y0 := row_cell hH5' 0 _ rfl
          have y1 := row_cell hH5' 1 _ rfl
          have y2 := row_cell hH5' 2 _ rfl
          have y3 := row_cell hH5' 3 _ rfl
          have y4 := row_cell hH5' 4 _ rfl
          have y5 := row_cell hH5' 5 _ rfl
          have y6 := row_cell hH5' 6 _ rfl
          have y7 := row_cell hH5' 7 _ rfl
          have u0 := A5 0 _ rfl
          have u1 := A5 1 _ rfl
          have u2 := A5 2 _ rfl
          have u3 := A5 3 _ rfl
          have u4 := A5 4 _ rfl
          have u5 := A5 5 _ rfl
          have u6 := A5 6 _ rfl
          have u7 := A5 7 _ rfl
          have hS := store8 A5 rfl n0 n1 n2 n3 n4 n5 n6 n7
          have HS8 := Lib.hid hS
          clear hS A5 hH5 hH5' hDD hH4 hR8 hsub hsl hg4 hg5
          go_wp2_with fail
          refine bodyPost_ret (v6_results _ _ w.heap.size [n0, n1, n2, n3, n4, n5, n6, n7] rfl 0 rfl rfl HS8.out) rfl ⟨rfl, ?_⟩
          exact below8 hB5 _ _ _ _ _ _ _ _
      · obtain rfl : R = none := by rw [HR.out]; simp [h8]
        have h8' : (((a.length : Nat) : Int) != 8) = true := by rw [bne_iff_ne]; omega
        clear howna hownb h8
        obtain ⟨x0, x1⟩ := (q0 w3 hb3).out
        have y0 := x1 0 _ rfl
        have y1 := x1 1 _ rfl
        have y2 := x1 2 _ rfl
        have y3 := x1 3 _ rfl
        have y4 := x1 4 _ rfl
        have y5 := x1 5 _ rfl
        have y6 := x1 6 _ rfl
        have y7 := x1 7 _ rfl
        have u0 := x0 0 _ rfl
        have u1 := x0 1 _ rfl
        have u2 := x0 2 _ rfl
        have u3 := x0 3 _ rfl
        have u4 := x0 4 _ rfl
        have u5 := x0 5 _ rfl
        have u6 := x0 6 _ rfl
        have u7 := x0 7 _ rfl
        have hS := store8 x0 rfl 0 0 0 0 0 0 0 0
        have HS8 := Lib.hid hS
        clear x0 x1 q0 hS
        go_wp2_with fail
        refine bodyPost_ret (v6_results _ _ w.heap.size (List.replicate 8 0) rfl 17 rfl rfl HS8.out) rfl ⟨rfl, ?_⟩
        exact below8 (belowT hbW (belowT hb1 (belowT hb2 hb3))) _ _ _ _ _ _ _ _
      · have hRn : R = some (splice (splice (List.replicate 8 0) 0 a) 8 []) := HR.out.trans (if_neg (by simp; omega))
        have h8' : (((a.length : Nat) : Int) != 8) = false := by rw [bne_eq_false_iff_eq]; omega
        have hle8 : a.length ≤ 8 := by omega
        clear h8
        have hz3 : w3.heap.size ≥ w.heap.size + 3 := by have := hb1.size; have := hb2.size; have := hb3.size; omega
        have hH3 : w3.heap[w.heap.size + 1 + 1]? = some (.cells z8.toArray 29 (0, 0)) := ((fin w2 w3 hb2 hb3).block (w.heap.size + 1 + 1) (by omega)).trans H2.out
        have oa : w3.ownsRow w1.heap.size 28 1 (.slice pa a.length ca) (u16s a).length (u16s a) := by rw [u16s_length]; exact own_below howna hb3
        have ob : w3.ownsRow w2.heap.size 28 1 (.slice pb 0 cb) 0 [] := hownb
        have A3 : Hid (Arr w3 w.heap.size z8) := Lib.hid (A0.out.below (fin w2 w3 hb2 hb3))
        have OA := Lib.hid oa
        have OB := Lib.hid ob
        have HH3 := Lib.hid hH3
        have hsz1 := hb1.size
        have hsz2 := hb2.size
        have OB4 : ∀ w4, w3.grownBy w4 (some (w.heap.size + 1 + 1)) → w4.ownsRow w2.heap.size 28 1 (.slice pb 0 cb) 0 [] := fun w4 h =>
          OB.out.kept h (by
            rcases OB.out.2 with ⟨h1, _⟩ | ⟨g, cap, cur, h1, hg, _⟩
            · left; rw [h1]; rfl
            · right; rw [h1]; intro e; injection e with e; simp at e; omega)
        have hR8 : (splice (splice (List.replicate 8 0) 0 a) 8 []).length = 8 := by simp [splice]; omega
        have HRN := Lib.hid hRn
        clear q0 howna hownb oa ob hH3 hRn
        go_wp2_with (first | ((with_reducible (show wpList _ _ _ (⟨some 61, _, _, _, _, _⟩ :: _) _ _)); refine copyRow rfl _ _ _ _ rfl 28 Tryd.underlying48 (by kernel_rfl) _ 8 8 _ (u16s a) w1.heap.size (w.heap.size + 1 + 1) 0 rfl rfl OA.out z8 29 HH3.out (by rw [u16s_length]; omega) (fun _ => rfl) (by rw [u16s_length]; show 0 + a.length ≤ 8; omega) (by simp [u16s, Value.oneCell']) ?_; intro w4 hH4 hg4 hz4) | ((with_reducible (show wpList _ _ _ (⟨some 67, _, _, _, _, _⟩ :: _) _ _)); refine copyRow rfl _ _ _ _ rfl 28 Tryd.underlying48 (by kernel_rfl) _ _ _ _ [] w2.heap.size (w.heap.size + 1 + 1) 8 rfl rfl (OB4 _ hg4) (splice z8 0 (u16s a)) 29 hH4 (Nat.zero_le _) (fun h => absurd h (Nat.lt_irrefl 0)) ?hfit (by simp) ?_))
        case hfit => simp [splice, u16s_length, z8]; omega
        intro w5 hH5 hg5 hz5
        have A5 : Arr w5 w.heap.size z8 := A3.out.grown (World.grownBy.trans hg4 hg5) (fun e => by injection e; omega)
        have hB5 : Below w.heap.size w w5 := (belowT hbW (belowT hb1 (belowT hb2 hb3))).grown (World.grownBy.trans hg4 hg5) (by omega) (fun k hk => by injection hk; omega)
        obtain ⟨n0, n1, n2, n3, n4, n5, n6, n7, hDD⟩ := list8 _ hR8
        have hH5' : w5.heap[w.heap.size + 1 + 1]? = some (.cells (u16s [n0, n1, n2, n3, n4, n5, n6, n7]).toArray 29 (0, 0)) := by
          rw [hH5, ← hDD, u16s_splice, u16s_splice, show splice (splice (u16s (List.replicate 8 0)) 0 (u16s a)) 8 (u16s []) = splice (splice z8 0 (u16s a)) 8 [] from rfl]
        have hRn := HRN.out
        rw [hDD] at hRn
        obtain rfl := hRn
        have y0 := row_cell hH5' 0 _ rfl
        have y1 := row_cell hH5' 1 _ rfl
        have y2 := row_cell hH5' 2 _ rfl
        have y3 := row_cell hH5' 3 _ rfl
        have y4 := row_cell hH5' 4 _ rfl
        have y5 := row_cell hH5' 5 _ rfl
        have y6 := row_cell hH5' 6 _ rfl
        have y7 := row_cell hH5' 7 _ rfl
        have u0 := A5 0 _ rfl
        have u1 := A5 1 _ rfl
        have u2 := A5 2 _ rfl
        have u3 := A5 3 _ rfl
        have u4 := A5 4 _ rfl
        have u5 := A5 5 _ rfl
        have u6 := A5 6 _ rfl
        have u7 := A5 7 _ rfl
        have hS := store8 A5 rfl n0 n1 n2 n3 n4 n5 n6 n7
        have HS8 := Lib.hid hS
        clear hS A5 hH5 hH5' hDD hH4 hR8 hg4 hg5
        go_wp2_with fail
        refine bodyPost_ret (v6_results _ _ w.heap.size [n0, n1, n2, n3, n4, n5, n6, n7] rfl 0 rfl rfl HS8.out) rfl ⟨rfl, ?_⟩
        exact below8 hB5 _ _ _ _ _ _ _ _
end Go.Proofs.YthdepnahbhheoaaDoor
