/- Small bridges between the printed contracts' words and the shelf's. Conditions: those in each statement. -/
import Derived.Test.YtpiafpkpdbknfaaGreatDoorWWords
namespace Go.Proofs.YtpiafpkpdbknfaaGreatDoor.Sup
open Go.RowKit Go.Proofs.YtpiafpkpdbknfaaGreatDoorW.PrintWords
set_option linter.unusedVariables false
set_option linter.unusedSimpArgs false

theorem addr_plain {w : World} {ad : Addr} {v : Value} (h : w.cell? ad = some v) : ad.spot = none := by
  unfold World.cell? at h
  split at h
  · split at h
    · cases h
    · rename_i hs
      cases e : ad.spot with
      | none => rfl
      | some x => rw [e] at hs; exact absurd rfl hs
  · cases h
/-- A row of strings that is read and is not empty: where it lies. -/
theorem strs_at {w : World} {A : Option Addr} {x : ByteArray} {l : List ByteArray} (h : Kd.C Kd.string w A (x :: l).length (x :: l)) :
    ∃ bk o, A = some ⟨bk, o, none⟩ ∧ (∀ (j : Nat) y, (x :: l)[j]? = some y → w.cell? ⟨bk, o + j, none⟩ = some (.string y)) ∧ bk < w.heap.size := by
  obtain ⟨hl, hm, hr⟩ := h
  obtain ⟨ad, rfl, hc⟩ := hr (by simp)
  obtain ⟨c, hcl, hK, hcell⟩ := hc 0 x rfl
  have hK' : c = [.string x] := hK
  subst hK'
  have h0 := hcell 0 (.string x) rfl
  have h0' : w.cell? ad = some (.string x) := by simpa [Addr.add] using h0
  have hsp := addr_plain h0'
  obtain ⟨b, o, sp⟩ := ad
  simp only at hsp
  subst hsp
  refine ⟨b, o, rfl, fun j y hj => ?_, World.block_lt_of_cell? w _ h0'⟩
  obtain ⟨c, hcl, hK, hcell⟩ := hc j y hj
  have hK' : c = [.string y] := hK
  subst hK'
  have h1 := hcell 0 (.string y) rfl
  have e : (⟨b, o, none⟩ : Addr).add (j * Kd.string.sz + 0) = ⟨b, o + j, none⟩ := by
    have hz : Kd.string.sz = 1 := rfl
    rw [hz]
    unfold Addr.add
    split
    · have : j = 0 := by omega
      subst this
      rfl
    · simp
  rw [e] at h1
  exact h1
end Go.Proofs.YtpiafpkpdbknfaaGreatDoor.Sup
