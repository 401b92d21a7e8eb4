/- Slices of the call's own: append of one element, Join over one, Itoa. -/
import Derived.Test.YthdepnahbhheoaaDoorBase
import Derived.Maps.AppendAt
import Derived.Laws.AppendOwn
import Derived.Laws.OwnMore
import Derived.Shelf.Abstract
import Derived.Deep.AppendLies
namespace Go.Proofs.YthdepnahbhheoaaDoor
open Go.RowKit

theorem addP (g j : Nat) : (⟨g, 0, none⟩ : Addr).add j = ⟨g, j, none⟩ := by unfold Addr.add; split <;> simp_all

/-- append(v, x), v the call's own (or nil): the box of x lies at the world's end. -/
theorem append1 {P : Program} {ops : Array Oper} {rest : List Oper} {o : Oper} {a : Act} {Q : Exit → Act → World → Prop} {w0 W : World} (base : Nat) (hgd : o.guard = none) (s x : Operand) (t e : TypeId) (z : Value) (bytes : Nat)
    (ho : o.op = .call { callee := .builtin .append, args := #[s, x], argTypes := #[t, t] })
    (ht : P.underlying t = some (.slice e)) (hinfo : (P.info? e).map (fun i => (i.zero, i.size, i.bytes)) = some (some z, 1, bytes)) (hz : z.cells.size = 1) (hb0 : 0 < bytes)
    (v : Value) (xs : List Value) (y : Value) (hs : a.eval s = v) (hx : a.eval x = .slice (some ⟨W.heap.size, 0, none⟩) 1 1) (h1 : y.oneCell' = true)
    (HO : W.ownsRow base e 1 v xs.length xs) (HB : Below base w0 W) (hbase : base ≤ W.heap.size) (hl : (xs.length + 1) * bytes ≤ 140737488355328)
    (h : ∀ v1 w1, w1.ownsRow base e 1 v1 (xs ++ [y]).length (xs ++ [y]) → Below base w0 w1 → W.grownBy w1 v.ownBlock → base ≤ w1.heap.size → wpList P ops Q rest (a.put o.dst v1) w1) :
    wpList P ops Q (o :: rest) a (W.alloc (.cells #[y] e)) := by
  obtain ⟨i0, hi, hzz⟩ := Option.map_eq_some_iff.1 hinfo
  simp only [Prod.mk.injEq] at hzz
  obtain ⟨hz0, hz1, hz2⟩ := hzz
  have hlen : xs.length + 1 ≤ 140737488355328 := Nat.le_trans (Nat.le_mul_of_pos_right _ hb0) hl
  refine wpList_append_own_at (W.alloc (.cells #[y] e)) hgd s x t ho base e i0 z 1 bytes ht hi hz0 hz1 hz2 hz (by omega) v xs.length xs hs (HO.alloc _) ⟨W.heap.size, 0, none⟩ 1 1 [y] hx rfl
    (World.news_of_block (cs := #[y]) (t := e) (fr := (0, 0)) (heap_alloc_new W _)) (by simpa using h1) (by simp only [maxLen]; omega) hl (by simp; omega) ?_
  intro v1 w1 hown hg _ _
  have hb1 : Below base w0 w1 := (HB.alloc hbase _).grown hg (by simp; omega) (fun k hk => by
    rcases HO.2 with ⟨rfl, _⟩ | ⟨g, cap, cur, rfl, hb, _⟩
    · simp [Value.ownBlock] at hk
    · have : g = k := by simpa [Value.ownBlock] using hk
      omega)
  exact h v1 w1 (by simpa using hown) hb1 (World.grownBy.trans (World.grownBy_alloc W _ _) hg) (Nat.le_trans hbase (Nat.le_trans (by simp) hg.size))

/-- append(v, l...), v the call's own (or nil), l a slice of one element at least. -/
theorem appendN {P : Program} {ops : Array Oper} {rest : List Oper} {o : Oper} {a : Act} {Q : Exit → Act → World → Prop} {w0 W : World} (base : Nat) (hgd : o.guard = none) (s x : Operand) (t e : TypeId) (z : Value) (bytes : Nat)
    (ho : o.op = .call { callee := .builtin .append, args := #[s, x], argTypes := #[t, t] })
    (ht : P.underlying t = some (.slice e)) (hinfo : (P.info? e).map (fun i => (i.zero, i.size, i.bytes)) = some (some z, 1, bytes)) (hz : z.cells.size = 1) (hb0 : 0 < bytes)
    (v : Value) (xs ys : List Value) (hs : a.eval s = v) (g c : Nat) (hx : a.eval x = .slice (some ⟨g, 0, none⟩) ys.length c) (hc : ∀ (j : Nat) u, ys[j]? = some u → W.cell? ⟨g, j, none⟩ = some u) (h1 : ∀ y ∈ ys, y.oneCell' = true)
    (HO : W.ownsRow base e 1 v xs.length xs) (HB : Below base w0 W) (hbase : base ≤ W.heap.size) (hl : (xs.length + ys.length) * bytes ≤ 140737488355328)
    (h : ∀ v1 w1, w1.ownsRow base e 1 v1 (xs ++ ys).length (xs ++ ys) → Below base w0 w1 → W.grownBy w1 v.ownBlock → base ≤ w1.heap.size → wpList P ops Q rest (a.put o.dst v1) w1) :
    wpList P ops Q (o :: rest) a W := by
  obtain ⟨i0, hi, hzz⟩ := Option.map_eq_some_iff.1 hinfo
  simp only [Prod.mk.injEq] at hzz
  obtain ⟨hz0, hz1, hz2⟩ := hzz
  have hlen : xs.length + ys.length ≤ 140737488355328 := Nat.le_trans (Nat.le_mul_of_pos_right _ hb0) hl
  refine wpList_append_own_at W hgd s x t ho base e i0 z 1 bytes ht hi hz0 hz1 hz2 hz (by omega) v xs.length xs hs HO ⟨g, 0, none⟩ ys.length c ys hx (by omega)
    (fun j u hj => by rw [addP]; exact hc j u hj) h1 (by simp only [maxLen]; omega) hl hbase ?_
  intro v1 w1 hown hg _ _
  have hb1 : Below base w0 w1 := HB.grown hg hbase (fun k hk => by
    rcases HO.2 with ⟨rfl, _⟩ | ⟨g, cap, cur, rfl, hb, _⟩
    · simp [Value.ownBlock] at hk
    · have : g = k := by simpa [Value.ownBlock] using hk
      omega)
  exact h v1 w1 (by rw [List.length_append]; exact hown) hb1 hg (Nat.le_trans hbase hg.size)

theorem own_slice {w : World} {base n : Nat} {e : TypeId} {size : Nat} {v : Value} {xs : List Value} (h : w.ownsRow base e size v n xs) : ∃ p c, v = .slice p n c := by
  rcases h.2 with ⟨rfl, rfl⟩ | ⟨g, cap, cur, rfl, _⟩
  · exact ⟨none, 0, rfl⟩
  · exact ⟨_, cap, rfl⟩
theorem own_mono {w : World} {b b' n : Nat} {e : TypeId} {size : Nat} {v : Value} {xs : List Value} (h : w.ownsRow b e size v n xs) (hb : b' ≤ b) : w.ownsRow b' e size v n xs :=
  ⟨h.1, h.2.imp id fun ⟨g, cap, cur, a, c, d⟩ => ⟨g, cap, cur, a, Nat.le_trans hb c, d⟩⟩
theorem own_below {w w1 : World} {base n : Nat} {e : TypeId} {size : Nat} {v : Value} {xs : List Value} (h : w.ownsRow base e size v n xs) (hb : Below w.heap.size w w1) : w1.ownsRow base e size v n xs :=
  h.kept (row := none) ⟨hb.os, hb.tape, hb.output, hb.size, fun i hi _ => hb.block i hi⟩ (by cases v.ownBlock <;> simp)
theorem own_cells {w : World} {base n : Nat} {e : TypeId} {v : Value} {xs : List Value} (h : w.ownsRow base e 1 v n xs) (h0 : 0 < n) :
    ∃ g cap, v = .slice (some ⟨g, 0, none⟩) n cap ∧ base ≤ g ∧ g < w.heap.size ∧ n ≤ cap ∧ ∀ (j : Nat) x, xs[j]? = some x → w.cell? ⟨g, j, none⟩ = some x := by
  obtain ⟨g, cap, rfl, hb, hc⟩ := h.form h0
  rcases h.2 with ⟨_, h1⟩ | ⟨g', cap', cur, he, hg, hh, hle, _⟩
  · omega
  · obtain ⟨rfl, rfl⟩ : g = g' ∧ cap = cap' := by injection he with h1 h2 h3; injection h1 with h1; injection h1 with h1; exact ⟨h1, h3⟩
    exact ⟨g, cap, rfl, hg, (Array.getElem?_eq_some_iff.1 hh).1, hle, fun j x hj => by rw [← addP]; exact h.cells (g := g) rfl j x hj⟩

/-- A row of cells that may be written. -/
def Arr (w : World) (b : Nat) (l : List Value) : Prop := ∀ (j : Nat) v, l[j]? = some v → w.cell? ⟨b, j, none⟩ = some v ∧ w.frozen? ⟨b, j, none⟩ = false
theorem Arr.new (w : World) (l : List Value) (T : TypeId) : Arr (w.alloc (.cells l.toArray T)) w.heap.size l := fun j v hj => by
  obtain ⟨h, rfl⟩ := List.getElem?_eq_some_iff.1 hj
  refine ⟨cellN w l T j h, ?_⟩
  unfold World.frozen?
  rw [heap_alloc_new]
  simp
theorem Arr.below {w w' : World} {b : Nat} {l : List Value} (h : Arr w b l) (hb : Below w.heap.size w w') : Arr w' b l := fun j v hj => by
  obtain ⟨h1, h2⟩ := h j v hj
  exact ⟨cellB hb h1, (hb.frozen (World.block_lt_of_cell? w _ h1)).trans h2⟩
theorem Arr.set {w : World} {b : Nat} {l : List Value} (h : Arr w b l) (k : Nat) (v : Value) : Arr (w.setCell ⟨b, k, none⟩ v) b (l.set k v) := fun j u hj => by
  rw [World.frozen?_setCell]
  rw [List.getElem?_set] at hj
  split at hj
  · rename_i hjk
    subst hjk
    split at hj
    · rename_i hlt
      cases hj
      obtain ⟨h1, h2⟩ := h k _ (List.getElem?_eq_getElem hlt)
      exact ⟨World.cell?_setCell_same _ _ _ h1, h2⟩
    · cases hj
  · rename_i hjk
    obtain ⟨h1, h2⟩ := h j u hj
    exact ⟨(World.cell?_setCell_other _ _ _ _ (fun e => hjk (by injection e))).trans h1, h2⟩

def itoaB (n : Int) : ByteArray := ⟨(Lib.itoa n).toArray⟩
theorem below_grow (w : World) (n : Nat) (os : Array Obj) : Below w.heap.size w (Go.Sort.grow (w.drewN n) os) := by
  refine ⟨rfl, rfl, rfl, ?_, fun j hj => ?_⟩
  · show w.heap.size ≤ ((w.drewN n).heap ++ os).size
    simp
  · show ((w.drewN n).heap ++ os)[j]? = w.heap[j]?
    rw [Array.getElem?_append_left (by simpa using hj)]; simp
theorem itoa_c (n : Int) (h0 : -9223372036854775808 ≤ n) (h1 : n ≤ 9223372036854775807) (w : World) (ok : Ok w) :
    Calls Tryd.prog 15 #[.int .i64 n] w fun e w' => e = .returned (.string (itoaB n)) ∧ Below w.heap.size w w' :=
  (Tryd.strconv_Itoa n h0 h1 w ok.pow10).mono fun _ _ ⟨a, k, os, b⟩ => ⟨a, b ▸ below_grow w k os⟩
/-- The texts with a text between. -/
def joinB (l : List ByteArray) (sep : ByteArray) : ByteArray := ⟨(Lib.join (l.map (·.data.toList)) sep.data.toList).toArray⟩
theorem join_c {base : Nat} (l : List ByteArray) (sep : ByteArray) (v : Value) (w : World) (h : w.ownsRow base 9 1 v l.length (l.map Value.string)) (hN : l.length ≤ 140737488355328)
    (hlen : (Lib.join (l.map (·.data.toList)) sep.data.toList).length ≤ 140737488355328) :
    Calls Tryd.prog 16 #[v, .string sep] w fun e w' => e = .returned (.string (joinB l sep)) ∧ Below w.heap.size w w' := by
  rcases Nat.eq_zero_or_pos l.length with h0 | h0
  · have hl : l = [] := List.eq_nil_of_length_eq_zero h0
    subst hl
    have hv : ∃ a c, v = .slice a 0 c := by
      rcases h.2 with ⟨rfl, _⟩ | ⟨g, cap, cur, rfl, _⟩
      · exact ⟨none, 0, rfl⟩
      · exact ⟨_, cap, rfl⟩
    obtain ⟨a, c, rfl⟩ := hv
    exact (Tryd.strings_Join_none a c sep w).mono fun e w' ⟨a, b⟩ => ⟨a, b ▸ Below.refl _ _⟩
  · obtain ⟨g, cap, rfl, _, hg, hc, hcells⟩ := own_cells h h0
    exact Tryd.strings_Join g 0 cap l sep w (fun j x hj => by rw [Nat.zero_add]; exact hcells j _ (by rw [List.getElem?_map, hj]; rfl)) hg hN hc hlen
end Go.Proofs.YthdepnahbhheoaaDoor
