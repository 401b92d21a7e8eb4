/- Base: what every contract of this seat leans on: the facts on the library's own variables, kept by calls that write nothing that was there; small lemmas. -/
import Derived.Test.YthdepnahbhheoaaDoorProg
import Derived.Test.YthdepnahbhheoaaDoorShelf
import Derived.WalkKit
import Derived.OwnWalk
import Derived.Below
import Derived.Lib.Hide
import Derived.Deep.QuietTactic
import Derived.BigQuiet
import Derived.RegionTactic
import Derived.ChangeAlike
import Derived.WalkLawsBesides
import Derived.WalkSpells
import Derived.WalkSmall
import Derived.Outline
import Derived.Deep.DeepMust
import Derived.Deep.DeepFit
import Derived.Deep.LoopGhost
import Derived.Deep.DeepCutAuto
import Derived.Lib.LaidTab
import Derived.Lib.AppendIntMem
namespace Go.Proofs.YthdepnahbhheoaaDoor
open Go.RowKit Go.Lib

/-- The facts on the library's variables. -/
structure Ok (w : World) : Prop where
  maxLen : ∃ m, w.cell? ⟨0, 0, none⟩ = some (.int .i64 m)
  errS : ∃ ev, w.cell? ⟨2, 0, none⟩ = some ev ∧ (ev = .nilIface ∨ ∃ te pe, ev = .iface te pe)
  errR : ∃ ev, w.cell? ⟨3, 0, none⟩ = some ev ∧ (ev = .nilIface ∨ ∃ te pe, ev = .iface te pe)
  pow10 : Lib.TabIs Tryd.prog w "internal/strconv.uint64pow10" .u64 Lib.pow10Tab

/-- A cell that lay lies on: behind a new block, behind a call. -/
theorem cellA {w : World} {a : Addr} {v : Value} (o : Obj) (h : w.cell? a = some v) : (w.alloc o).cell? a = some v := by
  have hlt := World.block_lt_of_cell? w a h
  have := (((Below.refl w.heap.size w).alloc (Nat.le_refl _) o).cell hlt)
  exact this.trans h
theorem cellN (w : World) (l : List Value) (T : TypeId) (j : Nat) (h : j < l.length) : (w.alloc (.cells l.toArray T)).cell? ⟨w.heap.size, j, none⟩ = some l[j] := by
  unfold World.cell?
  rw [heap_alloc_new]
  simp [h]
theorem cellB {w w' : World} {a : Addr} {v : Value} (hb : Below w.heap.size w w') (h : w.cell? a = some v) : w'.cell? a = some v :=
  (hb.cell (World.block_lt_of_cell? w a h)).trans h
theorem Ok.below {w w' : World} (h : Ok w) (hb : Below w.heap.size w w') : Ok w' := by
  obtain ⟨m, hm⟩ := h.maxLen
  obtain ⟨e1, h1, g1⟩ := h.errS
  obtain ⟨e2, h2, g2⟩ := h.errR
  exact ⟨⟨m, cellB hb hm⟩, ⟨e1, cellB hb h1, g1⟩, ⟨e2, cellB hb h2, g2⟩, Lib.tabBelow_of_tabIs h.pow10 _ hb⟩
theorem Ok.alloc {w : World} (h : Ok w) (o : Obj) : Ok (w.alloc o) := h.below ((Below.refl _ _).alloc (Nat.le_refl _) o)
theorem belowT {w w1 w2 : World} (h : Below w.heap.size w w1) (k : Below w1.heap.size w1 w2) : Below w.heap.size w w2 := h.trans (k.mono h.size)
theorem belowT' {B : Nat} {w w1 w2 : World} (h : Below B w w1) (hB : B ≤ w1.heap.size) (k : Below w1.heap.size w1 w2) : Below B w w2 := h.trans (k.mono hB)
theorem ret_bool {a b : Bool} (h : a = b) : Ending.returned (.bool a) = .returned (.bool b) := by rw [h]
theorem ret_int {k : IntKind} {a b : Int} (h : a = b) : Ending.returned (.int k a) = .returned (.int k b) := by rw [h]
theorem ret_val {a b : Value} (h : a = b) : Ending.returned a = .returned b := by rw [h]

end Go.Proofs.YthdepnahbhheoaaDoor
