/- smithylaw16.CmdLines, where all that it asks is so. Conditions: those in each statement. -/
import Derived.Test.YtpiafpkpdbknfaaGreatDoorSSpeaks
namespace Go.Proofs.YtpiafpkpdbknfaaGreatDoor.Sup
open Go.RowKit Go.Proofs.YtpiafpkpdbknfaaGreatDoorW.PrintWords Go.Proofs.YtpiafpkpdbknfaaGreatDoorW.PrintLast Go.Proofs.YtpiafpkpdbknfaaGreatDoorW.PrintMore
attribute [local go_sem] max2_int min2_int max_two min_two max_three min_three max_four min_four
set_option linter.unusedVariables false
set_option linter.unusedSimpArgs false
set_option maxHeartbeats 1000000 in
set_option maxRecDepth 100000 in
theorem lines_walk (a0 d : ByteArray) (o st er : Int) (l ws : List ByteArray) (n2 n3 : Nat) (w : World)
    (H1 : ∀ W : World, Below w.heap.size w W → Calls Tryz.prog 13 #[.string a0] W fun e w' => (∃ A2 c2 A3 c3, e = .returned (.tuple #[.agg #[.int .i64 o, .string d, .slice A2 n2 c2, .slice A3 n3 c3, .int .i64 st], .int .i64 er]) ∧ Kd.V Kd.string 9 w' 0 (fun _ => True) (.slice A2 n2 c2) l ∧ Kd.V Kd.string 9 w' 0 (fun _ => True) (.slice A3 n3 c3) ws) ∧ Below W.heap.size W w')
    (H2 : ∀ W : World, Below w.heap.size w W → Calls Tryz.prog 14 #[.string a0] W fun e w' => (∃ A4 c4 A5 c5, e = .returned (.tuple #[.agg #[.int .i64 o, .string d, .slice A4 n2 c4, .slice A5 n3 c5, .int .i64 st], .int .i64 er]) ∧ Kd.V Kd.string 9 w' 0 (fun _ => True) (.slice A4 n2 c4) l ∧ Kd.V Kd.string 9 w' 0 (fun _ => True) (.slice A5 n3 c5) ws) ∧ Below W.heap.size W w')
    (H3 : ∀ (W : World) (A2 : Option Addr) (c2 : Nat) (A3 : Option Addr) (c3 : Nat) (A4 : Option Addr) (c4 : Nat) (A5 : Option Addr) (c5 : Nat), Kd.V Kd.string 9 W 0 (fun _ => True) (.slice A2 n2 c2) l → Kd.V Kd.string 9 W 0 (fun _ => True) (.slice A3 n3 c3) ws → Kd.V Kd.string 9 W 0 (fun _ => True) (.slice A4 n2 c4) l → Kd.V Kd.string 9 W 0 (fun _ => True) (.slice A5 n3 c5) ws → Calls Tryz.prog 11 #[.agg #[.int .i64 o, .string d, .slice A2 n2 c2, .slice A3 n3 c3, .int .i64 st], .agg #[.int .i64 o, .string d, .slice A4 n2 c4, .slice A5 n3 c5, .int .i64 st]] W fun e w' => e = .returned (.bool true) ∧ Below W.heap.size W w')
    (H4 : ∀ W : World, Below w.heap.size w W → Calls Tryz.prog 12 #[] W fun e w' => e = .returned (.bool true) ∧ Below W.heap.size W w') :
    Calls Tryz.prog 4 #[.string a0] w fun e w' => e = .returned (.bool true) ∧ Below w.heap.size w w' := by
  go_enter Tryz.func4, Tryz.ntmps4
  go_upto_region 2 with (first
    | (go_at_call 13; refine (H1 _ (by repeat (first | exact Below.refl _ _ | apply below_alloc | apply below_drew1))).mono ?_; rintro e w1 ⟨⟨A2, c2, A3, c3, rfl, hv2, hv3⟩, hb1⟩))
  have hB1 : Below w.heap.size w w1 := by first | exact hb1 | exact Below.trans (by repeat (first | exact Below.refl _ _ | apply below_alloc | apply below_drew1)) (hb1.mono (by show w.heap.size ≤ (w.heap.push _).size; rw [Array.size_push]; omega))
  obtain ⟨W1, hW1⟩ : ∃ W1, W1 = w1.alloc (Obj.cells #[.int .i64 o, .string d, .slice A2 n2 c2, .slice A3 n3 c3, .int .i64 st] 24) := ⟨_, rfl⟩
  rw [← hW1]
  have hx1 : W1.heap[w1.heap.size]? = some (.cells #[.int .i64 o, .string d, .slice A2 n2 c2, .slice A3 n3 c3, .int .i64 st] 24 (0, 0)) := by rw [hW1]; exact alloc_top w1 _
  have hbw : Below w1.heap.size w1 W1 := by rw [hW1]; exact b_alloc w1 _
  have HV2 := Aside0.mk (vs_below hv2 hbw)
  have HV3 := Aside0.mk (vs_below hv3 hbw)
  have HX1 := Aside0.mk hx1
  have HB1 := Aside0.mk (hB1.trans (hbw.mono hB1.size))
  clear hW1 hx1 hbw hv2 hv3 hb1 hB1
  go_upto_region 3 with (first
    | (go_at_call 14; refine (H2 _ HB1.out).mono ?_; rintro e w2 ⟨⟨A4, c4, A5, c5, rfl, hv4, hv5⟩, hb2⟩))
  obtain ⟨W2, hW2⟩ : ∃ W2, W2 = w2.alloc (Obj.cells #[.int .i64 o, .string d, .slice A4 n2 c4, .slice A5 n3 c5, .int .i64 st] 24) := ⟨_, rfl⟩
  rw [← hW2]
  have hb2' : Below w2.heap.size w2 W2 := by rw [hW2]; exact b_alloc w2 _
  have hbw : Below W1.heap.size W1 W2 := hb2.trans (hb2'.mono hb2.size)
  have hx2 := (hbw.block w1.heap.size (Array.getElem?_eq_some_iff.1 HX1.out).1).trans HX1.out
  have hy2 : W2.heap[w2.heap.size]? = some (.cells #[.int .i64 o, .string d, .slice A4 n2 c4, .slice A5 n3 c5, .int .i64 st] 24 (0, 0)) := by rw [hW2]; exact alloc_top w2 _
  obtain ⟨⟨u0, y0⟩, ⟨u1, y1⟩, ⟨u2, y2⟩, ⟨u3, y3⟩, ⟨u4, y4⟩⟩ := box5 hx2
  obtain ⟨⟨p0, q0⟩, ⟨p1, q1⟩, ⟨p2, q2⟩, ⟨p3, q3⟩, ⟨p4, q4⟩⟩ := box5 hy2
  have HU2 := Aside0.mk (vs_below HV2.out hbw)
  have HU3 := Aside0.mk (vs_below HV3.out hbw)
  have HU4 := Aside0.mk (vs_below hv4 hb2')
  have HU5 := Aside0.mk (vs_below hv5 hb2')
  have HB2 := Aside0.mk (HB1.out.trans (hbw.mono HB1.out.size))
  clear hW2 hx2 hy2 hbw hb2 hb2' hv4 hv5
  go_wp2_with (first
    | (go_at_call 11; refine (H3 _ _ _ _ _ _ _ _ _ HU2.out HU3.out HU4.out HU5.out).mono ?_; rintro e w3 ⟨rfl, hb3⟩; have HB3 := Aside0.mk (HB2.out.trans (hb3.mono HB2.out.size)); clear hb3)
    | (go_at_call 12; refine (H4 _ HB3.out).mono ?_; rintro e w4 ⟨rfl, hb4⟩; have HB4 := Aside0.mk (HB3.out.trans (hb4.mono HB3.out.size)); clear hb4))
  go_ret
  exact ⟨rfl, HB4.out⟩
end Go.Proofs.YtpiafpkpdbknfaaGreatDoor.Sup
