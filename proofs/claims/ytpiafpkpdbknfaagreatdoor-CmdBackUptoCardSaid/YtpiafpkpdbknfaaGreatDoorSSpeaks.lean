/- smithylaw16.speaks tells true. Conditions: those in each statement. -/
import Derived.Test.YtpiafpkpdbknfaaGreatDoorSSayBase
namespace Go.Proofs.YtpiafpkpdbknfaaGreatDoor.Sup
open Go.RowKit Go.Proofs.YtpiafpkpdbknfaaGreatDoorW.PrintWords Go.Proofs.YtpiafpkpdbknfaaGreatDoorW.PrintLast Go.Proofs.YtpiafpkpdbknfaaGreatDoorW.PrintMore
attribute [local go_sem] max2_int min2_int max_two min_two max_three min_three max_four min_four
set_option linter.unusedVariables false
set_option linter.unusedSimpArgs false
theorem c_lit (w : World) {x : ByteArray} : Kd.C Kd.string (w.alloc (Obj.cells #[.string x] 9)) (some ⟨w.heap.size, 0, none⟩) 1 [x] :=
  (Kd.R_reads' (Kd.R_of_own (enc := Value.string) (h1 := fun _ => rfl) (xs := [x]) (e := 9) (base := 0) (ok := fun _ => True) (v := .slice (some ⟨w.heap.size, 0, none⟩) 1 1) ⟨rfl, .inr ⟨w.heap.size, 1, _, rfl, Nat.zero_le _, alloc_top w _, Nat.le_refl _, by decide, rfl, rfl⟩⟩ (fun _ _ => trivial))).2.2
theorem vs_below {W W' : World} {b : Nat} {ok : Nat → Prop} {v : Value} {l : List ByteArray} (h : Kd.V Kd.string 9 W b ok v l) (hb : Below W.heap.size W W') : Kd.V Kd.string 9 W' b ok v l := by
  obtain ⟨A, c, hv, hl, hF⟩ := h
  exact ⟨A, c, hv, hl, Foot.step hF (fun k _ hlt => hb.block k hlt)⟩
theorem b_alloc (w : World) (o : Obj) : Below w.heap.size w (w.alloc o) := (Below.refl w.heap.size w).alloc (Nat.le_refl _) o
set_option maxHeartbeats 1000000 in
set_option maxRecDepth 100000 in
theorem speaks_walk (w : World)
    (HL1 : ∀ W : World, Below w.heap.size w W → Calls Tryz.prog 13 #[.string (⟨#[99, 111, 112, 121, 32, 97, 32, 98]⟩ : ByteArray)] W fun e w' => (∃ A2 c2 A3 c3, e = .returned (.tuple #[.agg #[.int .i64 1, .string (⟨#[98]⟩ : ByteArray), .slice A2 1 c2, .slice A3 0 c3, .int .i64 0], .int .i64 0]) ∧ Kd.V Kd.string 9 w' 0 (fun _ => True) (.slice A2 1 c2) [(⟨#[97]⟩ : ByteArray)] ∧ Kd.V Kd.string 9 w' 0 (fun _ => True) (.slice A3 0 c3) []) ∧ Below W.heap.size W w')
    (HL2 : ∀ W : World, Below w.heap.size w W → Calls Tryz.prog 13 #[.string (⟨#[109, 111, 118, 101, 32, 97, 32, 98]⟩ : ByteArray)] W fun e w' => (∃ A2 c2 A3 c3, e = .returned (.tuple #[.agg #[.int .i64 0, .string ⟨#[]⟩, .slice A2 0 c2, .slice A3 0 c3, .int .i64 0], .int .i64 160])) ∧ Below W.heap.size W w')
    (HW : ∀ (W : World) (A2 : Option Addr) (c2 : Nat) (A3 : Option Addr) (c3 : Nat), Below w.heap.size w W → Kd.V Kd.string 9 W 0 (fun _ => True) (.slice A2 1 c2) [(⟨#[97]⟩ : ByteArray)] → Kd.V Kd.string 9 W 0 (fun _ => True) (.slice A3 0 c3) [] → Calls Tryz.prog 17 #[.agg #[.int .i64 1, .string (⟨#[98]⟩ : ByteArray), .slice A2 1 c2, .slice A3 0 c3, .int .i64 0]] W fun e w' => e = .returned (.tuple #[.string (⟨#[98]⟩ : ByteArray), .bool true, .int .i64 0]) ∧ Below W.heap.size W w')
    (HX : ∀ (W : World) (A : Option Addr) (c g : Nat), 1 ≤ c → Kd.C Kd.string W A 1 [(⟨#[97]⟩ : ByteArray)] → Kd.C Kd.string W (some ⟨g, 0, none⟩) 1 [(⟨#[97]⟩ : ByteArray)] → Calls Tryz.prog 19 #[.slice A 1 c, .slice (some ⟨g, 0, none⟩) 1 1] W fun e w' => e = .returned (.bool true) ∧ Drawn0 W w') :
    Calls Tryz.prog 12 #[] w fun e w' => e = .returned (.bool true) ∧ Below w.heap.size w w' := by
  go_enter Tryz.func12, Tryz.ntmps12
  go_upto_region 2 with (first
    | (go_at_call 13; refine (HL1 _ (by repeat (first | exact Below.refl _ _ | apply below_drew1))).mono ?_; rintro e w1 ⟨⟨A2, c2, A3, c3, rfl, hv2, hv3⟩, hb1⟩))
  obtain ⟨W1, hW1⟩ : ∃ W1, W1 = w1.alloc (Obj.cells #[.int .i64 1, .string (⟨#[98]⟩ : ByteArray), .slice A2 1 c2, .slice A3 0 c3, .int .i64 0] 24) := ⟨_, rfl⟩
  rw [← hW1]
  have hx1 : W1.heap[w1.heap.size]? = some (.cells #[.int .i64 1, .string (⟨#[98]⟩ : ByteArray), .slice A2 1 c2, .slice A3 0 c3, .int .i64 0] 24 (0, 0)) := by rw [hW1]; exact alloc_top w1 _
  have hB1 : Below w.heap.size w W1 := by rw [hW1]; exact hb1.alloc hb1.size _
  have hbw : Below w1.heap.size w1 W1 := by rw [hW1]; exact b_alloc w1 _
  have HV2 := Aside0.mk (vs_below hv2 hbw)
  have HV3 := Aside0.mk (vs_below hv3 hbw)
  have HX1 := Aside0.mk hx1
  have HB1 := Aside0.mk hB1
  clear hW1 hx1 hB1 hbw hv2 hv3 hb1
  go_upto_region 3 with (first
    | (go_at_call 13; refine (HL2 _ HB1.out).mono ?_; rintro e w2 ⟨⟨A4, c4, A5, c5, rfl⟩, hb2⟩))
  obtain ⟨W2, hW2⟩ : ∃ W2, W2 = w2.alloc (Obj.cells #[.int .i64 0, .string ⟨#[]⟩, .slice A4 0 c4, .slice A5 0 c5, .int .i64 0] 24) := ⟨_, rfl⟩
  rw [← hW2]
  have hbw : Below W1.heap.size W1 W2 := by rw [hW2]; exact hb2.alloc hb2.size _
  have hx2 := (hbw.block w1.heap.size (Array.getElem?_eq_some_iff.1 HX1.out).1).trans HX1.out
  obtain ⟨⟨u0, y0⟩, ⟨u1, y1⟩, ⟨u2, y2⟩, ⟨u3, y3⟩, ⟨u4, y4⟩⟩ := box5 hx2
  have HX2 := Aside0.mk hx2
  have HU2 := Aside0.mk (vs_below HV2.out hbw)
  have HU3 := Aside0.mk (vs_below HV3.out hbw)
  have HB2 := Aside0.mk (HB1.out.trans (hbw.mono HB1.out.size))
  clear hW2 hx2 hbw hb2
  go_upto_region 4 with (first
    | (go_at_call 17; refine (HW _ _ _ _ _ HB2.out HU2.out HU3.out).mono ?_; rintro e w3 ⟨rfl, hb3⟩))
  clear u0 u1 u2 u3 u4 y0 y1 y2 y3 y4
  obtain ⟨A, c, he, hl, hF⟩ := vs_below HU2.out hb3
  injection he with e1 e2 e3
  subst e1 e3
  clear e2
  have hl1 : 1 ≤ c2 := hl
  obtain ⟨⟨u0, y0⟩, ⟨u1, y1⟩, ⟨u2, y2⟩, ⟨u3, y3⟩, ⟨u4, y4⟩⟩ := box5 ((hb3.block w1.heap.size (Array.getElem?_eq_some_iff.1 HX2.out).1).trans HX2.out)
  have HF := Aside0.mk (Foot.now hF)
  have HB3 := Aside0.mk (HB2.out.trans (hb3.mono HB2.out.size))
  have HL := Aside0.mk hl1
  clear hF hb3 hl hl1
  go_wp2_with (first
    | (go_at_call 19; refine calls_of_args (args' := #[.slice A2 1 c2, .slice (some ⟨w3.heap.size, 0, none⟩) 1 1]) (by first | with_reducible rfl | rfl) ?_; refine (HX _ _ _ _ HL.out (Kd.C_below HF.out (b_alloc _ _)) (c_lit w3)).mono ?_; rintro e w4 ⟨rfl, ⟨nd, rfl⟩⟩))
  go_ret
  exact ⟨rfl, by repeat (first | exact HB3.out | apply below_alloc | apply pw_below_drewN | apply below_drew1)⟩
end Go.Proofs.YtpiafpkpdbknfaaGreatDoor.Sup
