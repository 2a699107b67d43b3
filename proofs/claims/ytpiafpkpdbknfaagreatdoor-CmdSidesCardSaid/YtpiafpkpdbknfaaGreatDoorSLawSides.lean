/- smithylaw16.CmdSides, where all that it asks is so. Conditions: those in each statement. -/
import Derived.Test.YtpiafpkpdbknfaaGreatDoorSSpeaks
namespace Go.Proofs.YtpiafpkpdbknfaaGreatDoor.Sup
open Go.RowKit Go.Proofs.YtpiafpkpdbknfaaGreatDoorW.PrintWords Go.Proofs.YtpiafpkpdbknfaaGreatDoorW.PrintLast Go.Proofs.YtpiafpkpdbknfaaGreatDoorW.PrintMore
attribute [local go_sem] max2_int min2_int max_two min_two max_three min_three max_four min_four
set_option linter.unusedVariables false
set_option linter.unusedSimpArgs false
def readsB (o : Int) : Bool := o == 1 || o == 2 || o == 6
def writesB (o : Int) : Bool := o != 7 && o != 8 && o != 6
set_option maxHeartbeats 1000000 in
set_option maxRecDepth 100000 in
theorem sides_bad (op : Int) (dst : ByteArray) (A2 : Option Addr) (n2 c2 : Nat) (A3 : Option Addr) (n3 c3 : Nat) (st : Int) (w : World) {er : Int} (her : (er != 0) = true)
    (H1 : ∀ W : World, Below w.heap.size w W → Calls Tryz.prog 15 #[.agg #[.int .i64 op, .string dst, .slice A2 n2 c2, .slice A3 n3 c3, .int .i64 st]] W fun e w' => e = .returned (.int .i64 er) ∧ Below W.heap.size W w')
    (H4 : ∀ W : World, Below w.heap.size w W → Calls Tryz.prog 12 #[] W fun e w' => e = .returned (.bool true) ∧ Below W.heap.size W w'):
    Calls Tryz.prog 5 #[.agg #[.int .i64 op, .string dst, .slice A2 n2 c2, .slice A3 n3 c3, .int .i64 st]] w fun e w' => e = .returned (.bool true) ∧ Below w.heap.size w w' := by
  go_enter Tryz.func5, Tryz.ntmps5
  go_upto_region 1 with (fail)
  obtain ⟨W1, hW1⟩ : ∃ W1, W1 = w.alloc (Obj.cells #[.int .i64 op, .string dst, .slice A2 n2 c2, .slice A3 n3 c3, .int .i64 st] 24) := ⟨_, rfl⟩
  rw [← hW1]
  have hx1 : W1.heap[w.heap.size]? = some (.cells #[.int .i64 op, .string dst, .slice A2 n2 c2, .slice A3 n3 c3, .int .i64 st] 24 (0, 0)) := by rw [hW1]; exact alloc_top w _
  have HB1 := Aside0.mk (show Below w.heap.size w W1 by rw [hW1]; exact b_alloc w _)
  obtain ⟨⟨u0, y0⟩, ⟨u1, y1⟩, ⟨u2, y2⟩, ⟨u3, y3⟩, ⟨u4, y4⟩⟩ := box5 hx1
  have HX1 := Aside0.mk hx1
  clear hW1 hx1
  go_wp2_with (first
    | (go_at_call 15; refine (H1 _ HB1.out).mono ?_; rintro e w2 ⟨rfl, hb_⟩; have hx_ := (hb_.block w.heap.size (Array.getElem?_eq_some_iff.1 HX1.out).1).trans HX1.out; have HB2 := Aside0.mk (HB1.out.trans (hb_.mono HB1.out.size)); clear u0 u1 u2 u3 u4 y0 y1 y2 y3 y4; obtain ⟨⟨u0, y0⟩, ⟨u1, y1⟩, ⟨u2, y2⟩, ⟨u3, y3⟩, ⟨u4, y4⟩⟩ := box5 hx_; have HX2 := Aside0.mk hx_; clear hx_ hb_)
    | (go_at_call 12; refine (H4 _ HB2.out).mono ?_; rintro e w6 ⟨rfl, hb6⟩; have HB6 := Aside0.mk (HB2.out.trans (hb6.mono HB2.out.size)); clear hb6))
  go_ret
  exact ⟨rfl, HB6.out⟩
set_option maxHeartbeats 1000000 in
set_option maxRecDepth 100000 in
theorem sides_walk (op : Int) (dst : ByteArray) (A2 : Option Addr) (n2 c2 : Nat) (A3 : Option Addr) (n3 c3 : Nat) (st : Int) (w : World) (m : Nat) (b : Bool) (hop : 1 ≤ op ∧ op ≤ 8) (hm : decide ((m : Int) > 0) = readsB op) (hb : b = writesB op)
    (H1 : ∀ W : World, Below w.heap.size w W → Calls Tryz.prog 15 #[.agg #[.int .i64 op, .string dst, .slice A2 n2 c2, .slice A3 n3 c3, .int .i64 st]] W fun e w' => e = .returned (.int .i64 0) ∧ Below W.heap.size W w')
    (H2 : ∀ W : World, Below w.heap.size w W → Calls Tryz.prog 16 #[.agg #[.int .i64 op, .string dst, .slice A2 n2 c2, .slice A3 n3 c3, .int .i64 st]] W fun e w' => (∃ A c, e = .returned (.tuple #[.slice A m c, .int .i64 0])) ∧ Below W.heap.size W w')
    (H3 : ∀ W : World, Below w.heap.size w W → Calls Tryz.prog 17 #[.agg #[.int .i64 op, .string dst, .slice A2 n2 c2, .slice A3 n3 c3, .int .i64 st]] W fun e w' => (∃ x, e = .returned (.tuple #[.string x, .bool b, .int .i64 0])) ∧ Below W.heap.size W w')
    (H4 : ∀ W : World, Below w.heap.size w W → Calls Tryz.prog 12 #[] W fun e w' => e = .returned (.bool true) ∧ Below W.heap.size W w'):
    Calls Tryz.prog 5 #[.agg #[.int .i64 op, .string dst, .slice A2 n2 c2, .slice A3 n3 c3, .int .i64 st]] w fun e w' => e = .returned (.bool true) ∧ Below w.heap.size w w' := by
  have hcase : op = 1 ∨ op = 2 ∨ op = 3 ∨ op = 4 ∨ op = 5 ∨ op = 6 ∨ op = 7 ∨ op = 8 := by omega
  clear hop
  rcases hcase with ho | ho | ho | ho | ho | ho | ho | ho
  all_goals
    rw [ho] at hm hb
    have HO := Aside0.mk ho
    clear ho
    first | (have hm2 : decide ((m : Int) > 0) = true := hm) | (have hm2 : decide ((m : Int) > 0) = false := hm)
    first | (obtain rfl : b = true := hb) | (obtain rfl : b = false := hb)
    clear hm
    go_enter Tryz.func5, Tryz.ntmps5
    go_upto_region 1 with (fail)
    obtain ⟨W1, hW1⟩ : ∃ W1, W1 = w.alloc (Obj.cells #[.int .i64 op, .string dst, .slice A2 n2 c2, .slice A3 n3 c3, .int .i64 st] 24) := ⟨_, rfl⟩
    rw [← hW1]
    have hx1 : W1.heap[w.heap.size]? = some (.cells #[.int .i64 op, .string dst, .slice A2 n2 c2, .slice A3 n3 c3, .int .i64 st] 24 (0, 0)) := by rw [hW1]; exact alloc_top w _
    have HB1 := Aside0.mk (show Below w.heap.size w W1 by rw [hW1]; exact b_alloc w _)
    obtain ⟨⟨u0, y0⟩, ⟨u1, y1⟩, ⟨u2, y2⟩, ⟨u3, y3⟩, ⟨u4, y4⟩⟩ := box5 hx1
    have HX1 := Aside0.mk hx1
    clear hW1 hx1
    go_upto_region 5 with (first
      | (go_at_call 15; refine (H1 _ HB1.out).mono ?_; rintro e w2 ⟨rfl, hb_⟩; have hx_ := (hb_.block w.heap.size (Array.getElem?_eq_some_iff.1 HX1.out).1).trans HX1.out; have HB2 := Aside0.mk (HB1.out.trans (hb_.mono HB1.out.size)); clear u0 u1 u2 u3 u4 y0 y1 y2 y3 y4; obtain ⟨⟨u0, y0⟩, ⟨u1, y1⟩, ⟨u2, y2⟩, ⟨u3, y3⟩, ⟨u4, y4⟩⟩ := box5 hx_; have HX2 := Aside0.mk hx_; clear hx_ hb_)
      | (go_at_call 16; refine (H2 _ HB2.out).mono ?_; rintro e w3 ⟨⟨A, c, rfl⟩, hb_⟩; have hx_ := (hb_.block w.heap.size (Array.getElem?_eq_some_iff.1 HX2.out).1).trans HX2.out; have HB3 := Aside0.mk (HB2.out.trans (hb_.mono HB2.out.size)); clear u0 u1 u2 u3 u4 y0 y1 y2 y3 y4; obtain ⟨⟨u0, y0⟩, ⟨u1, y1⟩, ⟨u2, y2⟩, ⟨u3, y3⟩, ⟨u4, y4⟩⟩ := box5 hx_; have HX3 := Aside0.mk hx_; clear hx_ hb_)
      | (go_at_call 17; refine (H3 _ HB3.out).mono ?_; rintro e w4 ⟨⟨x, rfl⟩, hb_⟩; have hx_ := (hb_.block w.heap.size (Array.getElem?_eq_some_iff.1 HX3.out).1).trans HX3.out; have HB4 := Aside0.mk (HB3.out.trans (hb_.mono HB3.out.size)); clear u0 u1 u2 u3 u4 y0 y1 y2 y3 y4; obtain ⟨⟨u0, y0⟩, ⟨u1, y1⟩, ⟨u2, y2⟩, ⟨u3, y3⟩, ⟨u4, y4⟩⟩ := box5 hx_; have HX4 := Aside0.mk hx_; clear hx_ hb_))
    have ho := HO.out
    go_wp2_with (first
      | (go_at_call 12; refine (H4 _ HB4.out).mono ?_; rintro e w6 ⟨rfl, hb6⟩; have HB6 := Aside0.mk (HB4.out.trans (hb6.mono HB4.out.size)); clear hb6))
    all_goals first | (exfalso; first | (have h_ := of_decide_eq_true hm2; omega) | (have h_ := of_decide_eq_false hm2; omega)) | (go_ret; exact ⟨rfl, HB6.out⟩)
end Go.Proofs.YtpiafpkpdbknfaaGreatDoor.Sup
