/- cmd.of: other fields are set, or there is no such operation. Conditions: those in each statement. -/
import Derived.Test.YtpiafpkpdbknfaaGreatDoorSOfBase
namespace Go.Proofs.YtpiafpkpdbknfaaGreatDoor.Sup
open Go.RowKit Go.Proofs.YtpiafpkpdbknfaaGreatDoorW.PrintWords Go.Proofs.YtpiafpkpdbknfaaGreatDoorW.PrintLast Go.Proofs.YtpiafpkpdbknfaaGreatDoorW.PrintMore
attribute [local go_sem] max2_int min2_int max_two min_two max_three min_three max_four min_four
set_option linter.unusedVariables false
set_option linter.unusedSimpArgs false
set_option maxHeartbeats 1000000 in
set_option maxRecDepth 100000 in
theorem of_1_n0 (dst : ByteArray) (st : Int) (q : Nat) (A2 : Option Addr) (c2 : Nat) (A3 : Option Addr) (c3 : Nat) (w : World) :
    Calls Tryz.prog 43 #[(.agg #[.int .i64 1, .string dst, .slice A2 0 c2, .slice A3 q c3, .int .i64 st])] w fun e w' => e = .returned (.tuple #[.nilIface, .int .i64 160]) ∧ Below w.heap.size w w' := by
  go_enter Tryz.func43, Tryz.ntmps43
  go_wp2
  go_ret2
  exact ⟨rfl, by repeat (first | exact Below.refl _ _ | exact HB1.out | exact hB3 | apply below_alloc | apply pw_below_drewN | apply below_drew1)⟩
set_option maxHeartbeats 1000000 in
set_option maxRecDepth 100000 in
theorem of_1_nM (dst : ByteArray) (st : Int) (n : Nat) (q : Nat) (A2 : Option Addr) (c2 : Nat) (A3 : Option Addr) (c3 : Nat) (w : World) (h2 : n ≠ 1) (h20 : n ≠ 0) :
    Calls Tryz.prog 43 #[(.agg #[.int .i64 1, .string dst, .slice A2 n c2, .slice A3 q c3, .int .i64 st])] w fun e w' => e = .returned (.tuple #[.nilIface, .int .i64 160]) ∧ Below w.heap.size w w' := by
  have b21 : ((n : Int) == 1) = false := beq_eq_false_iff_ne.2 (by omega)
  have b20 : ((n : Int) == 0) = false := beq_eq_false_iff_ne.2 (by omega)
  go_enter Tryz.func43, Tryz.ntmps43
  go_wp2
  go_ret2
  exact ⟨rfl, by repeat (first | exact Below.refl _ _ | exact HB1.out | exact hB3 | apply below_alloc | apply pw_below_drewN | apply below_drew1)⟩
set_option maxHeartbeats 1000000 in
set_option maxRecDepth 100000 in
theorem of_1_w (dst : ByteArray) (st : Int) (s : ByteArray) (q : Nat) (A2 : Option Addr) (c2 : Nat) (A3 : Option Addr) (c3 : Nat) (w : World) (hr2 : Kd.C Kd.string w A2 [s].length [s]) (h3 : 0 < q) :
    Calls Tryz.prog 43 #[(.agg #[.int .i64 1, .string dst, .slice A2 1 c2, .slice A3 q c3, .int .i64 st])] w fun e w' => e = .returned (.tuple #[.nilIface, .int .i64 160]) ∧ Below w.heap.size w w' := by
  have HR := Aside0.mk hr2
  obtain ⟨ad, rfl, hcell⟩ := c_first hr2
  have hlt := World.block_lt_of_cell? _ _ hcell
  have hnew := World.new_ne w ad hcell
  have q01 : (0 : Int) < (1 : Int) := by decide
  clear hr2
  have b30 : decide ((q : Int) > 0) = true := decide_eq_true (by omega)
  go_enter Tryz.func43, Tryz.ntmps43
  go_wp2
  go_ret2
  exact ⟨rfl, by repeat (first | exact Below.refl _ _ | exact HB1.out | exact hB3 | apply below_alloc | apply pw_below_drewN | apply below_drew1)⟩
set_option maxHeartbeats 1000000 in
set_option maxRecDepth 100000 in
theorem of_1_s (dst : ByteArray) (st : Int) (s : ByteArray) (A2 : Option Addr) (c2 : Nat) (A3 : Option Addr) (c3 : Nat) (w : World) (hr2 : Kd.C Kd.string w A2 [s].length [s]) (hst : st ≠ 0) :
    Calls Tryz.prog 43 #[(.agg #[.int .i64 1, .string dst, .slice A2 1 c2, .slice A3 0 c3, .int .i64 st])] w fun e w' => e = .returned (.tuple #[.nilIface, .int .i64 160]) ∧ Below w.heap.size w w' := by
  have HR := Aside0.mk hr2
  obtain ⟨ad, rfl, hcell⟩ := c_first hr2
  have hlt := World.block_lt_of_cell? _ _ hcell
  have hnew := World.new_ne w ad hcell
  have q01 : (0 : Int) < (1 : Int) := by decide
  clear hr2
  have bs : (st == 0) = false := beq_eq_false_iff_ne.2 hst
  go_enter Tryz.func43, Tryz.ntmps43
  go_wp2
  go_ret2
  exact ⟨rfl, by repeat (first | exact Below.refl _ _ | exact HB1.out | exact hB3 | apply below_alloc | apply pw_below_drewN | apply below_drew1)⟩
set_option maxHeartbeats 1000000 in
set_option maxRecDepth 100000 in
theorem of_4_n1 (dst : ByteArray) (st : Int) (s : ByteArray) (q : Nat) (A2 : Option Addr) (c2 : Nat) (A3 : Option Addr) (c3 : Nat) (w : World) (hr2 : Kd.C Kd.string w A2 [s].length [s]) :
    Calls Tryz.prog 43 #[(.agg #[.int .i64 4, .string dst, .slice A2 1 c2, .slice A3 q c3, .int .i64 st])] w fun e w' => e = .returned (.tuple #[.nilIface, .int .i64 160]) ∧ Below w.heap.size w w' := by
  have HR := Aside0.mk hr2
  obtain ⟨ad, rfl, hcell⟩ := c_first hr2
  have hlt := World.block_lt_of_cell? _ _ hcell
  have hnew := World.new_ne w ad hcell
  have q01 : (0 : Int) < (1 : Int) := by decide
  clear hr2
  go_enter Tryz.func43, Tryz.ntmps43
  go_wp2
  go_ret2
  exact ⟨rfl, by repeat (first | exact Below.refl _ _ | exact HB1.out | exact hB3 | apply below_alloc | apply pw_below_drewN | apply below_drew1)⟩
set_option maxHeartbeats 1000000 in
set_option maxRecDepth 100000 in
theorem of_4_nM (dst : ByteArray) (st : Int) (n : Nat) (q : Nat) (A2 : Option Addr) (c2 : Nat) (A3 : Option Addr) (c3 : Nat) (w : World) (h2 : n ≠ 1) (h20 : n ≠ 0) :
    Calls Tryz.prog 43 #[(.agg #[.int .i64 4, .string dst, .slice A2 n c2, .slice A3 q c3, .int .i64 st])] w fun e w' => e = .returned (.tuple #[.nilIface, .int .i64 160]) ∧ Below w.heap.size w w' := by
  have b21 : ((n : Int) == 1) = false := beq_eq_false_iff_ne.2 (by omega)
  have b20 : ((n : Int) == 0) = false := beq_eq_false_iff_ne.2 (by omega)
  go_enter Tryz.func43, Tryz.ntmps43
  go_wp2
  go_ret2
  exact ⟨rfl, by repeat (first | exact Below.refl _ _ | exact HB1.out | exact hB3 | apply below_alloc | apply pw_below_drewN | apply below_drew1)⟩
set_option maxHeartbeats 1000000 in
set_option maxRecDepth 100000 in
theorem of_4_w (dst : ByteArray) (st : Int) (q : Nat) (A2 : Option Addr) (c2 : Nat) (A3 : Option Addr) (c3 : Nat) (w : World) (h3 : 0 < q) :
    Calls Tryz.prog 43 #[(.agg #[.int .i64 4, .string dst, .slice A2 0 c2, .slice A3 q c3, .int .i64 st])] w fun e w' => e = .returned (.tuple #[.nilIface, .int .i64 160]) ∧ Below w.heap.size w w' := by
  have b30 : decide ((q : Int) > 0) = true := decide_eq_true (by omega)
  go_enter Tryz.func43, Tryz.ntmps43
  go_wp2
  go_ret2
  exact ⟨rfl, by repeat (first | exact Below.refl _ _ | exact HB1.out | exact hB3 | apply below_alloc | apply pw_below_drewN | apply below_drew1)⟩
set_option maxHeartbeats 1000000 in
set_option maxRecDepth 100000 in
theorem of_4_s (dst : ByteArray) (st : Int) (A2 : Option Addr) (c2 : Nat) (A3 : Option Addr) (c3 : Nat) (w : World) (hst : st ≠ 0) :
    Calls Tryz.prog 43 #[(.agg #[.int .i64 4, .string dst, .slice A2 0 c2, .slice A3 0 c3, .int .i64 st])] w fun e w' => e = .returned (.tuple #[.nilIface, .int .i64 160]) ∧ Below w.heap.size w w' := by
  have bs : (st == 0) = false := beq_eq_false_iff_ne.2 hst
  go_enter Tryz.func43, Tryz.ntmps43
  go_wp2
  go_ret2
  exact ⟨rfl, by repeat (first | exact Below.refl _ _ | exact HB1.out | exact hB3 | apply below_alloc | apply pw_below_drewN | apply below_drew1)⟩
set_option maxHeartbeats 1000000 in
set_option maxRecDepth 100000 in
theorem of_5_n1 (dst : ByteArray) (st : Int) (s : ByteArray) (q : Nat) (A2 : Option Addr) (c2 : Nat) (A3 : Option Addr) (c3 : Nat) (w : World) (hr2 : Kd.C Kd.string w A2 [s].length [s]) :
    Calls Tryz.prog 43 #[(.agg #[.int .i64 5, .string dst, .slice A2 1 c2, .slice A3 q c3, .int .i64 st])] w fun e w' => e = .returned (.tuple #[.nilIface, .int .i64 160]) ∧ Below w.heap.size w w' := by
  have HR := Aside0.mk hr2
  obtain ⟨ad, rfl, hcell⟩ := c_first hr2
  have hlt := World.block_lt_of_cell? _ _ hcell
  have hnew := World.new_ne w ad hcell
  have q01 : (0 : Int) < (1 : Int) := by decide
  clear hr2
  go_enter Tryz.func43, Tryz.ntmps43
  go_wp2
  go_ret2
  exact ⟨rfl, by repeat (first | exact Below.refl _ _ | exact HB1.out | exact hB3 | apply below_alloc | apply pw_below_drewN | apply below_drew1)⟩
set_option maxHeartbeats 1000000 in
set_option maxRecDepth 100000 in
theorem of_5_nM (dst : ByteArray) (st : Int) (n : Nat) (q : Nat) (A2 : Option Addr) (c2 : Nat) (A3 : Option Addr) (c3 : Nat) (w : World) (h2 : n ≠ 1) (h20 : n ≠ 0) :
    Calls Tryz.prog 43 #[(.agg #[.int .i64 5, .string dst, .slice A2 n c2, .slice A3 q c3, .int .i64 st])] w fun e w' => e = .returned (.tuple #[.nilIface, .int .i64 160]) ∧ Below w.heap.size w w' := by
  have b21 : ((n : Int) == 1) = false := beq_eq_false_iff_ne.2 (by omega)
  have b20 : ((n : Int) == 0) = false := beq_eq_false_iff_ne.2 (by omega)
  go_enter Tryz.func43, Tryz.ntmps43
  go_wp2
  go_ret2
  exact ⟨rfl, by repeat (first | exact Below.refl _ _ | exact HB1.out | exact hB3 | apply below_alloc | apply pw_below_drewN | apply below_drew1)⟩
set_option maxHeartbeats 1000000 in
set_option maxRecDepth 100000 in
theorem of_5_w (dst : ByteArray) (st : Int) (q : Nat) (A2 : Option Addr) (c2 : Nat) (A3 : Option Addr) (c3 : Nat) (w : World) (h3 : 0 < q) :
    Calls Tryz.prog 43 #[(.agg #[.int .i64 5, .string dst, .slice A2 0 c2, .slice A3 q c3, .int .i64 st])] w fun e w' => e = .returned (.tuple #[.nilIface, .int .i64 160]) ∧ Below w.heap.size w w' := by
  have b30 : decide ((q : Int) > 0) = true := decide_eq_true (by omega)
  go_enter Tryz.func43, Tryz.ntmps43
  go_wp2
  go_ret2
  exact ⟨rfl, by repeat (first | exact Below.refl _ _ | exact HB1.out | exact hB3 | apply below_alloc | apply pw_below_drewN | apply below_drew1)⟩
set_option maxHeartbeats 1000000 in
set_option maxRecDepth 100000 in
theorem of_5_s (dst : ByteArray) (st : Int) (A2 : Option Addr) (c2 : Nat) (A3 : Option Addr) (c3 : Nat) (w : World) (hst : st ≠ 0) :
    Calls Tryz.prog 43 #[(.agg #[.int .i64 5, .string dst, .slice A2 0 c2, .slice A3 0 c3, .int .i64 st])] w fun e w' => e = .returned (.tuple #[.nilIface, .int .i64 160]) ∧ Below w.heap.size w w' := by
  have bs : (st == 0) = false := beq_eq_false_iff_ne.2 hst
  go_enter Tryz.func43, Tryz.ntmps43
  go_wp2
  go_ret2
  exact ⟨rfl, by repeat (first | exact Below.refl _ _ | exact HB1.out | exact hB3 | apply below_alloc | apply pw_below_drewN | apply below_drew1)⟩
set_option maxHeartbeats 1000000 in
set_option maxRecDepth 100000 in
theorem of_6_n0 (dst : ByteArray) (st : Int) (q : Nat) (A2 : Option Addr) (c2 : Nat) (A3 : Option Addr) (c3 : Nat) (w : World) :
    Calls Tryz.prog 43 #[(.agg #[.int .i64 6, .string dst, .slice A2 0 c2, .slice A3 q c3, .int .i64 st])] w fun e w' => e = .returned (.tuple #[.nilIface, .int .i64 160]) ∧ Below w.heap.size w w' := by
  go_enter Tryz.func43, Tryz.ntmps43
  go_wp2
  go_ret2
  exact ⟨rfl, by repeat (first | exact Below.refl _ _ | exact HB1.out | exact hB3 | apply below_alloc | apply pw_below_drewN | apply below_drew1)⟩
set_option maxHeartbeats 1000000 in
set_option maxRecDepth 100000 in
theorem of_6_nM (dst : ByteArray) (st : Int) (n : Nat) (q : Nat) (A2 : Option Addr) (c2 : Nat) (A3 : Option Addr) (c3 : Nat) (w : World) (h2 : n ≠ 1) (h20 : n ≠ 0) :
    Calls Tryz.prog 43 #[(.agg #[.int .i64 6, .string dst, .slice A2 n c2, .slice A3 q c3, .int .i64 st])] w fun e w' => e = .returned (.tuple #[.nilIface, .int .i64 160]) ∧ Below w.heap.size w w' := by
  have b21 : ((n : Int) == 1) = false := beq_eq_false_iff_ne.2 (by omega)
  have b20 : ((n : Int) == 0) = false := beq_eq_false_iff_ne.2 (by omega)
  go_enter Tryz.func43, Tryz.ntmps43
  go_wp2
  go_ret2
  exact ⟨rfl, by repeat (first | exact Below.refl _ _ | exact HB1.out | exact hB3 | apply below_alloc | apply pw_below_drewN | apply below_drew1)⟩
set_option maxHeartbeats 1000000 in
set_option maxRecDepth 100000 in
theorem of_6_d (dst : ByteArray) (st : Int) (s : ByteArray) (q : Nat) (A2 : Option Addr) (c2 : Nat) (A3 : Option Addr) (c3 : Nat) (w : World) (hr2 : Kd.C Kd.string w A2 [s].length [s]) (hdst : dst ≠ ByteArray.empty) :
    Calls Tryz.prog 43 #[(.agg #[.int .i64 6, .string dst, .slice A2 1 c2, .slice A3 q c3, .int .i64 st])] w fun e w' => e = .returned (.tuple #[.nilIface, .int .i64 160]) ∧ Below w.heap.size w w' := by
  have HR := Aside0.mk hr2
  obtain ⟨ad, rfl, hcell⟩ := c_first hr2
  have hlt := World.block_lt_of_cell? _ _ hcell
  have hnew := World.new_ne w ad hcell
  have q01 : (0 : Int) < (1 : Int) := by decide
  clear hr2
  have bd : (dst.toList == []) = false := dst_ne hdst
  go_enter Tryz.func43, Tryz.ntmps43
  go_wp2
  go_ret2
  exact ⟨rfl, by repeat (first | exact Below.refl _ _ | exact HB1.out | exact hB3 | apply below_alloc | apply pw_below_drewN | apply below_drew1)⟩
set_option maxHeartbeats 1000000 in
set_option maxRecDepth 100000 in
theorem of_6_w (st : Int) (s : ByteArray) (q : Nat) (A2 : Option Addr) (c2 : Nat) (A3 : Option Addr) (c3 : Nat) (w : World) (hr2 : Kd.C Kd.string w A2 [s].length [s]) (h3 : 0 < q) :
    Calls Tryz.prog 43 #[(.agg #[.int .i64 6, .string ⟨#[]⟩, .slice A2 1 c2, .slice A3 q c3, .int .i64 st])] w fun e w' => e = .returned (.tuple #[.nilIface, .int .i64 160]) ∧ Below w.heap.size w w' := by
  have HR := Aside0.mk hr2
  obtain ⟨ad, rfl, hcell⟩ := c_first hr2
  have hlt := World.block_lt_of_cell? _ _ hcell
  have hnew := World.new_ne w ad hcell
  have q01 : (0 : Int) < (1 : Int) := by decide
  clear hr2
  have b30 : decide ((q : Int) > 0) = true := decide_eq_true (by omega)
  go_enter Tryz.func43, Tryz.ntmps43
  go_wp2
  go_ret2
  exact ⟨rfl, by repeat (first | exact Below.refl _ _ | exact HB1.out | exact hB3 | apply below_alloc | apply pw_below_drewN | apply below_drew1)⟩
set_option maxHeartbeats 1000000 in
set_option maxRecDepth 100000 in
theorem of_6_s (st : Int) (s : ByteArray) (A2 : Option Addr) (c2 : Nat) (A3 : Option Addr) (c3 : Nat) (w : World) (hr2 : Kd.C Kd.string w A2 [s].length [s]) (hst : st ≠ 0) :
    Calls Tryz.prog 43 #[(.agg #[.int .i64 6, .string ⟨#[]⟩, .slice A2 1 c2, .slice A3 0 c3, .int .i64 st])] w fun e w' => e = .returned (.tuple #[.nilIface, .int .i64 160]) ∧ Below w.heap.size w w' := by
  have HR := Aside0.mk hr2
  obtain ⟨ad, rfl, hcell⟩ := c_first hr2
  have hlt := World.block_lt_of_cell? _ _ hcell
  have hnew := World.new_ne w ad hcell
  have q01 : (0 : Int) < (1 : Int) := by decide
  clear hr2
  have bs : (st == 0) = false := beq_eq_false_iff_ne.2 hst
  go_enter Tryz.func43, Tryz.ntmps43
  go_wp2
  go_ret2
  exact ⟨rfl, by repeat (first | exact Below.refl _ _ | exact HB1.out | exact hB3 | apply below_alloc | apply pw_below_drewN | apply below_drew1)⟩
end Go.Proofs.YtpiafpkpdbknfaaGreatDoor.Sup
