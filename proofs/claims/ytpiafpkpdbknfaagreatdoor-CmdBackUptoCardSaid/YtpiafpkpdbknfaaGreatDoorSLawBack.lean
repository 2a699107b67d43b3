/- smithylaw16.CmdBack, where all that it asks is so. Conditions: those in each statement. -/
import Derived.Test.YtpiafpkpdbknfaaGreatDoorSSpeaks
namespace Go.Proofs.YtpiafpkpdbknfaaGreatDoor.Sup
open Go.RowKit Go.Proofs.YtpiafpkpdbknfaaGreatDoorW.PrintWords Go.Proofs.YtpiafpkpdbknfaaGreatDoorW.PrintLast Go.Proofs.YtpiafpkpdbknfaaGreatDoorW.PrintMore
attribute [local go_sem] max2_int min2_int max_two min_two max_three min_three max_four min_four
set_option linter.unusedVariables false
set_option linter.unusedSimpArgs false
set_option maxHeartbeats 1000000 in
set_option maxRecDepth 100000 in
theorem back_bad (op : Int) (dst : ByteArray) (A2 : Option Addr) (n2 c2 : Nat) (A3 : Option Addr) (n3 c3 : Nat) (st : Int) (w : World) {er : Int} (her : (er != 0) = true)
    (H1 : ∀ W : World, Below w.heap.size w W → Calls Tryz.prog 15 #[.agg #[.int .i64 op, .string dst, .slice A2 n2 c2, .slice A3 n3 c3, .int .i64 st]] W fun e w' => e = .returned (.int .i64 er) ∧ Below W.heap.size W w')
    (H4 : ∀ W : World, Below w.heap.size w W → Calls Tryz.prog 12 #[] W fun e w' => e = .returned (.bool true) ∧ Below W.heap.size W w'):
    Calls Tryz.prog 7 #[.agg #[.int .i64 op, .string dst, .slice A2 n2 c2, .slice A3 n3 c3, .int .i64 st]] w fun e w' => e = .returned (.bool true) ∧ Below w.heap.size w w' := by
  go_enter Tryz.func7, Tryz.ntmps7
  go_upto_region 1 with (fail)
  obtain ⟨W1, hW1⟩ : ∃ W1, W1 = w.alloc (Obj.cells #[.int .i64 op, .string dst, .slice A2 n2 c2, .slice A3 n3 c3, .int .i64 st] 24) := ⟨_, rfl⟩
  rw [← hW1]
  have hx1 : W1.heap[w.heap.size]? = some (.cells #[.int .i64 op, .string dst, .slice A2 n2 c2, .slice A3 n3 c3, .int .i64 st] 24 (0, 0)) := by rw [hW1]; exact alloc_top w _
  have HB1 := Aside0.mk (show Below w.heap.size w W1 by rw [hW1]; exact b_alloc w _)
  obtain ⟨⟨u0, y0⟩, ⟨u1, y1⟩, ⟨u2, y2⟩, ⟨u3, y3⟩, ⟨u4, y4⟩⟩ := box5 hx1
  have HX1 := Aside0.mk hx1
  clear hW1 hx1
  go_wp2_with (first
    | (go_at_call 15; refine (H1 _ HB1.out).mono ?_; rintro e w2 ⟨rfl, hb_⟩; have hx_ := (hb_.block w.heap.size (Array.getElem?_eq_some_iff.1 HX1.out).1).trans HX1.out; have HB2 := Aside0.mk (HB1.out.trans (hb_.mono HB1.out.size)); clear u0 u1 u2 u3 u4 y0 y1 y2 y3 y4; obtain ⟨⟨u0, y0⟩, ⟨u1, y1⟩, ⟨u2, y2⟩, ⟨u3, y3⟩, ⟨u4, y4⟩⟩ := box5 hx_; have HX2 := Aside0.mk hx_; clear hx_ hb_)
    | (go_at_call 12; refine (H4 _ HB2.out).mono ?_; rintro e w6 ⟨rfl, hb6⟩; have HB6 := Aside0.mk (HB2.out.trans (hb6.mono HB2.out.size)); clear hb6))
  go_ret
  exact ⟨rfl, HB6.out⟩
set_option maxHeartbeats 1000000 in
set_option maxRecDepth 100000 in
theorem back_walk (op : Int) (dst : ByteArray) (A2 : Option Addr) (n2 c2 : Nat) (A3 : Option Addr) (n3 c3 : Nat) (st : Int) (w : World) (s : ByteArray) (nl : Nat) (src words wl : List ByteArray)
    (H1 : ∀ W : World, Below w.heap.size w W → Calls Tryz.prog 15 #[.agg #[.int .i64 op, .string dst, .slice A2 n2 c2, .slice A3 n3 c3, .int .i64 st]] W fun e w' => e = .returned (.int .i64 0) ∧ Below W.heap.size W w')
    (H2 : ∀ W : World, Below w.heap.size w W → Calls Tryz.prog 18 #[.agg #[.int .i64 op, .string dst, .slice A2 n2 c2, .slice A3 n3 c3, .int .i64 st]] W fun e w' => (∃ A c, e = .returned (.tuple #[.slice A nl c, .int .i64 0]) ∧ Kd.V Kd.string 9 w' 0 (fun _ => True) (.slice A nl c) wl) ∧ Below W.heap.size W w')
    (H3 : ∀ W : World, Below w.heap.size w W → Calls Tryz.prog 20 #[.agg #[.int .i64 op, .string dst, .slice A2 n2 c2, .slice A3 n3 c3, .int .i64 st]] W fun e w' => e = .returned (.tuple #[.string s, .int .i64 0]) ∧ Below W.heap.size W w')
    (H4 : ∀ (W : World) (A : Option Addr) (c : Nat), Below w.heap.size w W → Kd.V Kd.string 9 W 0 (fun _ => True) (.slice A nl c) wl → Calls Tryz.prog 9 #[.slice A nl c] W fun e w' => (∃ A4 c4 A5 c5, e = .returned (.tuple #[.agg #[.int .i64 op, .string dst, .slice A4 n2 c4, .slice A5 n3 c5, .int .i64 st], .int .i64 0]) ∧ Kd.V Kd.string 9 w' 0 (fun _ => True) (.slice A4 n2 c4) src ∧ Kd.V Kd.string 9 w' 0 (fun _ => True) (.slice A5 n3 c5) words) ∧ Below W.heap.size W w')
    (H5 : ∀ (W : World) (A4 : Option Addr) (c4 : Nat) (A5 : Option Addr) (c5 : Nat), Below w.heap.size w W → Kd.V Kd.string 9 W 0 (fun _ => True) (.slice A4 n2 c4) src → Kd.V Kd.string 9 W 0 (fun _ => True) (.slice A5 n3 c5) words → Calls Tryz.prog 11 #[.agg #[.int .i64 op, .string dst, .slice A4 n2 c4, .slice A5 n3 c5, .int .i64 st], .agg #[.int .i64 op, .string dst, .slice A2 n2 c2, .slice A3 n3 c3, .int .i64 st]] W fun e w' => e = .returned (.bool true) ∧ Below W.heap.size W w')
    (H6 : decide ((s.size : Int) > 65536) = false → ∀ W : World, Below w.heap.size w W → Calls Tryz.prog 13 #[.string s] W fun e w' => (∃ A4 c4 A5 c5, e = .returned (.tuple #[.agg #[.int .i64 op, .string dst, .slice A4 n2 c4, .slice A5 n3 c5, .int .i64 st], .int .i64 0]) ∧ Kd.V Kd.string 9 w' 0 (fun _ => True) (.slice A4 n2 c4) src ∧ Kd.V Kd.string 9 w' 0 (fun _ => True) (.slice A5 n3 c5) words) ∧ Below W.heap.size W w')
    (H7 : ∀ W : World, Below w.heap.size w W → Calls Tryz.prog 12 #[] W fun e w' => e = .returned (.bool true) ∧ Below W.heap.size W w'):
    Calls Tryz.prog 7 #[.agg #[.int .i64 op, .string dst, .slice A2 n2 c2, .slice A3 n3 c3, .int .i64 st]] w fun e w' => e = .returned (.bool true) ∧ Below w.heap.size w w' := by
  have HH6 := Aside0.mk H6
  clear H6
  go_enter Tryz.func7, Tryz.ntmps7
  go_upto_region 1 with (fail)
  obtain ⟨W1, hW1⟩ : ∃ W1, W1 = w.alloc (Obj.cells #[.int .i64 op, .string dst, .slice A2 n2 c2, .slice A3 n3 c3, .int .i64 st] 24) := ⟨_, rfl⟩
  rw [← hW1]
  have hx1 : W1.heap[w.heap.size]? = some (.cells #[.int .i64 op, .string dst, .slice A2 n2 c2, .slice A3 n3 c3, .int .i64 st] 24 (0, 0)) := by rw [hW1]; exact alloc_top w _
  have HB1 := Aside0.mk (show Below w.heap.size w W1 by rw [hW1]; exact b_alloc w _)
  obtain ⟨⟨u0, y0⟩, ⟨u1, y1⟩, ⟨u2, y2⟩, ⟨u3, y3⟩, ⟨u4, y4⟩⟩ := box5 hx1
  have HX1 := Aside0.mk hx1
  clear hW1 hx1
  go_upto_region 6 with (first
    | (go_at_call 15; refine (H1 _ HB1.out).mono ?_; rintro e w2 ⟨rfl, hb_⟩; have hx_ := (hb_.block w.heap.size (Array.getElem?_eq_some_iff.1 HX1.out).1).trans HX1.out; have HB2 := Aside0.mk (HB1.out.trans (hb_.mono HB1.out.size)); clear u0 u1 u2 u3 u4 y0 y1 y2 y3 y4; obtain ⟨⟨u0, y0⟩, ⟨u1, y1⟩, ⟨u2, y2⟩, ⟨u3, y3⟩, ⟨u4, y4⟩⟩ := box5 hx_; have HX2 := Aside0.mk hx_; clear hx_ hb_)
    | (go_at_call 18; refine (H2 _ HB2.out).mono ?_; rintro e w3 ⟨⟨A, c, rfl, hv_⟩, hb_⟩; have HV3 := Aside0.mk hv_; clear hv_; have hx_ := (hb_.block w.heap.size (Array.getElem?_eq_some_iff.1 HX2.out).1).trans HX2.out; have HB3 := Aside0.mk (HB2.out.trans (hb_.mono HB2.out.size)); clear u0 u1 u2 u3 u4 y0 y1 y2 y3 y4; obtain ⟨⟨u0, y0⟩, ⟨u1, y1⟩, ⟨u2, y2⟩, ⟨u3, y3⟩, ⟨u4, y4⟩⟩ := box5 hx_; have HX3 := Aside0.mk hx_; clear hx_ hb_)
    | (go_at_call 20; refine (H3 _ HB3.out).mono ?_; rintro e w4 ⟨rfl, hb_⟩; have HV4 := Aside0.mk (vs_below HV3.out hb_); have hx_ := (hb_.block w.heap.size (Array.getElem?_eq_some_iff.1 HX3.out).1).trans HX3.out; have HB4 := Aside0.mk (HB3.out.trans (hb_.mono HB3.out.size)); clear u0 u1 u2 u3 u4 y0 y1 y2 y3 y4; obtain ⟨⟨u0, y0⟩, ⟨u1, y1⟩, ⟨u2, y2⟩, ⟨u3, y3⟩, ⟨u4, y4⟩⟩ := box5 hx_; have HX4 := Aside0.mk hx_; clear hx_ hb_)
    | (go_at_call 9; refine (H4 _ _ _ HB4.out HV4.out).mono ?_; rintro e w5 ⟨⟨A4, c4, A5, c5, rfl, hp_, hq_⟩, hb_⟩; have HP5 := Aside0.mk hp_; have HQ5 := Aside0.mk hq_; clear hp_ hq_; have hx_ := (hb_.block w.heap.size (Array.getElem?_eq_some_iff.1 HX4.out).1).trans HX4.out; have HB5 := Aside0.mk (HB4.out.trans (hb_.mono HB4.out.size)); clear u0 u1 u2 u3 u4 y0 y1 y2 y3 y4; obtain ⟨⟨u0, y0⟩, ⟨u1, y1⟩, ⟨u2, y2⟩, ⟨u3, y3⟩, ⟨u4, y4⟩⟩ := box5 hx_; have HX5 := Aside0.mk hx_; clear hx_ hb_))
  obtain ⟨W6, hW6⟩ : ∃ W6, W6 = w5.alloc (Obj.cells #[.int .i64 op, .string dst, .slice A4 n2 c4, .slice A5 n3 c5, .int .i64 st] 24) := ⟨_, rfl⟩
  rw [← hW6]
  have hy_ : W6.heap[w5.heap.size]? = some (.cells #[.int .i64 op, .string dst, .slice A4 n2 c4, .slice A5 n3 c5, .int .i64 st] 24 (0, 0)) := by rw [hW6]; exact alloc_top w5 _
  have hb_ : Below w5.heap.size w5 W6 := by rw [hW6]; exact b_alloc w5 _
  have hx_ := (hb_.block w.heap.size (Array.getElem?_eq_some_iff.1 HX5.out).1).trans HX5.out
  have HB6 := Aside0.mk (HB5.out.trans (hb_.mono HB5.out.size))
  clear u0 u1 u2 u3 u4 y0 y1 y2 y3 y4
  obtain ⟨⟨u0, y0⟩, ⟨u1, y1⟩, ⟨u2, y2⟩, ⟨u3, y3⟩, ⟨u4, y4⟩⟩ := box5 hx_
  obtain ⟨⟨p0, q0⟩, ⟨p1, q1⟩, ⟨p2, q2⟩, ⟨p3, q3⟩, ⟨p4, q4⟩⟩ := box5 hy_
  have HX6 := Aside0.mk hx_
  have HP6 := Aside0.mk (vs_below HP5.out hb_)
  have HQ6 := Aside0.mk (vs_below HQ5.out hb_)
  clear hW6 hx_ hy_ hb_
  go_upto_region 8 with (first
    | (go_at_call 11; refine (H5 _ _ _ _ _ HB6.out HP6.out HQ6.out).mono ?_; rintro e w7 ⟨rfl, hb_⟩; clear p0 p1 p2 p3 p4 q0 q1 q2 q3 q4; have hx_ := (hb_.block w.heap.size (Array.getElem?_eq_some_iff.1 HX6.out).1).trans HX6.out; have HB7 := Aside0.mk (HB6.out.trans (hb_.mono HB6.out.size)); clear u0 u1 u2 u3 u4 y0 y1 y2 y3 y4; obtain ⟨⟨u0, y0⟩, ⟨u1, y1⟩, ⟨u2, y2⟩, ⟨u3, y3⟩, ⟨u4, y4⟩⟩ := box5 hx_; have HX7 := Aside0.mk hx_; clear hx_ hb_))
  cases hbig : decide ((s.size : Int) > 65536)
  · have H6 := HH6.out hbig
    go_upto_region 11 with (first
      | (go_at_call 13; refine (H6 _ HB7.out).mono ?_; rintro e w8 ⟨⟨A6, c6, A7, c7, rfl, hp_, hq_⟩, hb_⟩; have HP8 := Aside0.mk hp_; have HQ8 := Aside0.mk hq_; clear hp_ hq_; have hx_ := (hb_.block w.heap.size (Array.getElem?_eq_some_iff.1 HX7.out).1).trans HX7.out; have HB8 := Aside0.mk (HB7.out.trans (hb_.mono HB7.out.size)); clear u0 u1 u2 u3 u4 y0 y1 y2 y3 y4; obtain ⟨⟨u0, y0⟩, ⟨u1, y1⟩, ⟨u2, y2⟩, ⟨u3, y3⟩, ⟨u4, y4⟩⟩ := box5 hx_; have HX8 := Aside0.mk hx_; clear hx_ hb_))
    all_goals (try (exfalso; have h_ := of_decide_eq_false hbig; omega))
    obtain ⟨W9, hW9⟩ : ∃ W9, W9 = w8.alloc (Obj.cells #[.int .i64 op, .string dst, .slice A6 n2 c6, .slice A7 n3 c7, .int .i64 st] 24) := ⟨_, rfl⟩
    rw [← hW9]
    have hy_ : W9.heap[w8.heap.size]? = some (.cells #[.int .i64 op, .string dst, .slice A6 n2 c6, .slice A7 n3 c7, .int .i64 st] 24 (0, 0)) := by rw [hW9]; exact alloc_top w8 _
    have hb_ : Below w8.heap.size w8 W9 := by rw [hW9]; exact b_alloc w8 _
    have hx_ := (hb_.block w.heap.size (Array.getElem?_eq_some_iff.1 HX8.out).1).trans HX8.out
    have HB9 := Aside0.mk (HB8.out.trans (hb_.mono HB8.out.size))
    clear u0 u1 u2 u3 u4 y0 y1 y2 y3 y4
    obtain ⟨⟨u0, y0⟩, ⟨u1, y1⟩, ⟨u2, y2⟩, ⟨u3, y3⟩, ⟨u4, y4⟩⟩ := box5 hx_
    obtain ⟨⟨p0, q0⟩, ⟨p1, q1⟩, ⟨p2, q2⟩, ⟨p3, q3⟩, ⟨p4, q4⟩⟩ := box5 hy_
    have HX9 := Aside0.mk hx_
    have HP9 := Aside0.mk (vs_below HP8.out hb_)
    have HQ9 := Aside0.mk (vs_below HQ8.out hb_)
    clear hW9 hx_ hy_ hb_
    go_wp2_with (first
      | (go_at_call 11; refine (H5 _ _ _ _ _ HB9.out HP9.out HQ9.out).mono ?_; rintro e w10 ⟨rfl, hb_⟩; have HB10 := Aside0.mk (HB9.out.trans (hb_.mono HB9.out.size)); clear hb_)
      | (go_at_call 12; refine (H7 _ HB10.out).mono ?_; rintro e w11 ⟨rfl, hb_⟩; have HB11 := Aside0.mk (HB10.out.trans (hb_.mono HB10.out.size)); clear hb_))
    go_ret
    exact ⟨rfl, HB11.out⟩
  · go_wp2_with (first
      | (go_at_call 12; refine (H7 _ HB7.out).mono ?_; rintro e w11 ⟨rfl, hb_⟩; have HB11 := Aside0.mk (HB7.out.trans (hb_.mono HB7.out.size)); clear hb_))
    all_goals first | (exfalso; have h_ := of_decide_eq_true hbig; omega) | (go_ret; exact ⟨rfl, HB11.out⟩)
end Go.Proofs.YtpiafpkpdbknfaaGreatDoor.Sup
