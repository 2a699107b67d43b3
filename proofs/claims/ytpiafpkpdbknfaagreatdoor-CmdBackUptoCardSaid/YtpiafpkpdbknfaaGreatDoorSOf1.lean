/- cmd.of, of a copy. Conditions: those in each statement. -/
import Derived.Test.YtpiafpkpdbknfaaGreatDoorSOfBase
namespace Go.Proofs.YtpiafpkpdbknfaaGreatDoor.Sup
open Go.RowKit Go.Proofs.YtpiafpkpdbknfaaGreatDoorW.PrintWords Go.Proofs.YtpiafpkpdbknfaaGreatDoorW.PrintLast Go.Proofs.YtpiafpkpdbknfaaGreatDoorW.PrintMore
attribute [local go_sem] max2_int min2_int max_two min_two max_three min_three max_four min_four
set_option linter.unusedVariables false
set_option linter.unusedSimpArgs false
set_option maxHeartbeats 1000000 in
set_option maxRecDepth 100000 in
theorem of_1 (dst : ByteArray) (s : ByteArray) (A2 : Option Addr) (c2 : Nat) (A3 : Option Addr) (c3 : Nat) (w : World) (hr2 : Kd.C Kd.string w A2 [s].length [s]) :
    Calls Tryz.prog 43 #[(.agg #[.int .i64 1, .string dst, .slice A2 1 c2, .slice A3 0 c3, .int .i64 0])] w fun e w' => e = .returned (.tuple #[.iface 83 (.agg #[.string s, .string dst]), .int .i64 0]) ∧ Below w.heap.size w w' := by
  have HR := Aside0.mk hr2
  obtain ⟨ad, rfl, hcell⟩ := c_first hr2
  have hlt := World.block_lt_of_cell? _ _ hcell
  have hnew := World.new_ne w ad hcell
  have q01 : (0 : Int) < (1 : Int) := by decide
  clear hr2
  go_enter Tryz.func43, Tryz.ntmps43
  go_wp2
  go_ret2
  exact ⟨rfl, by repeat (first | exact Below.refl _ _ | exact HB1.out | exact hB3 | apply below_alloc | apply pw_below_drewN | apply below_drew1)⟩
end Go.Proofs.YtpiafpkpdbknfaaGreatDoor.Sup
