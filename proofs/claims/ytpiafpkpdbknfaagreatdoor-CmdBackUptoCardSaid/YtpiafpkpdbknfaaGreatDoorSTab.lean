/- What the walks ask of the world: the package variables strconv.ErrSyntax and ErrRange hold errors, and the table of powers of ten lies. It outlives every call that writes only in its own blocks. Conditions: those in each statement. -/
import Derived.Test.YtpiafpkpdbknfaaGreatDoorProg
import Derived.WalkKit
import Derived.Below
import Derived.Lib.LaidTab
import Derived.Lib.ItoaMem
namespace Go.Proofs.YtpiafpkpdbknfaaGreatDoor.Sup
open Go.RowKit
theorem var_below {P : Program} {w w' : World} {name : String} {v : Array Value} (hb : Below w.heap.size w w') (h : w.var? P name = some v) : w'.var? P name = some v := by
  unfold World.var? at *
  cases hg : P.globalNamed name with
  | none => simp [hg] at h
  | some g =>
    simp only [hg, Option.bind_some] at h ⊢
    have hlt : g < w.heap.size := by
      rcases Nat.lt_or_ge g w.heap.size with h' | h'
      · exact h'
      · rw [Array.getElem?_eq_none h'] at h; simp at h
    rw [hb.block g hlt]
    exact h
def Tab (w : World) : Prop :=
  (∃ te pe, w.cell? ⟨0, 0, none⟩ = some (.iface te pe)) ∧ (∃ te pe, w.cell? ⟨1, 0, none⟩ = some (.iface te pe)) ∧ Lib.TabIs Tryz.prog w "internal/strconv.uint64pow10" .u64 Lib.pow10Tab
theorem Tab.below {w w' : World} (h : Tab w) (hb : Below w.heap.size w w') : Tab w' := by
  obtain ⟨⟨t1, p1, h1⟩, ⟨t2, p2, h2⟩, h3⟩ := h
  refine ⟨⟨t1, p1, ?_⟩, ⟨t2, p2, ?_⟩, var_below hb h3⟩
  · rw [hb.cell (World.block_lt_of_cell? _ _ h1)]; exact h1
  · rw [hb.cell (World.block_lt_of_cell? _ _ h2)]; exact h2
end Go.Proofs.YtpiafpkpdbknfaaGreatDoor.Sup
