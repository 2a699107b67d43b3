/- cmd.told and its callers: check. Conditions: those in each statement. -/
import Derived.Test.YtpiafpkpdbknfaaGreatDoorSSayBase
namespace Go.Proofs.YtpiafpkpdbknfaaGreatDoor.Sup
open Go.RowKit Go.Proofs.YtpiafpkpdbknfaaGreatDoorW.PrintWords Go.Proofs.YtpiafpkpdbknfaaGreatDoorW.PrintLast Go.Proofs.YtpiafpkpdbknfaaGreatDoorW.PrintMore
attribute [local go_sem] max2_int min2_int max_two min_two max_three min_three max_four min_four
set_option linter.unusedVariables false
set_option linter.unusedSimpArgs false
set_option maxHeartbeats 1000000 in
set_option maxRecDepth 100000 in
theorem check_none (op : Int) (dst : ByteArray) (v2 v3 : Value) (st : Int) (w : World) {er : Int} (her : (er != 0) = true) (her0 : (er == 0) = false) (HG : Fails 43 (cval op dst v2 v3 st) w er) :
    Calls Tryz.prog 15 #[(cval op dst v2 v3 st)] w fun e w' => e = .returned (.int .i64 er) ∧ Below w.heap.size w w' := by
  go_enter Tryz.func15, Tryz.ntmps15
  go_wp2_with (first
    | (go_at_call 43; refine (HG _ (by repeat (first | exact Below.refl _ _ | exact HB1.out | exact HB2.out | apply below_alloc | apply pw_below_drewN | apply below_drew1))).mono ?_; rintro e w1 ⟨rfl, hb1⟩; have HB1 := Aside0.mk (Below.trans (show Below w.heap.size w _ from (by repeat (first | exact Below.refl _ _ | exact HB1.out | exact HB2.out | apply below_alloc | apply pw_below_drewN | apply below_drew1))) (hb1.mono (below_size (show Below w.heap.size w _ from (by repeat (first | exact Below.refl _ _ | exact HB1.out | exact HB2.out | apply below_alloc | apply pw_below_drewN | apply below_drew1)))))); clear hb1))
  go_ret
  exact ⟨rfl, HB1.out⟩
set_option maxHeartbeats 1000000 in
set_option maxRecDepth 100000 in
theorem check_1 {Q : World → Value → Prop} (hQ : Stays Q) {er : Int} (op : Int) (dst : ByteArray) (v2 v3 : Value) (st : Int) (w : World) (HG : Gives 43 83 (cval op dst v2 v3 st) w Q) (HM : Meth 160 Q w (isE er)) :
    Calls Tryz.prog 15 #[(cval op dst v2 v3 st)] w fun e w' => e = .returned (.int .i64 er) ∧ Below w.heap.size w w' := by
  have hm : ∀ (v : Value) (W : World), Sem.run Tryz.prog (method 342 83 v "smithy/cmd.right") W = .ok (160, v) W := fun _ _ => rfl
  go_enter Tryz.func15, Tryz.ntmps15
  go_wp2_with (first
    | (go_at_call 43; refine (HG _ (by repeat (first | exact Below.refl _ _ | exact HB1.out | exact HB2.out | apply below_alloc | apply pw_below_drewN | apply below_drew1))).mono ?_; rintro e w1 ⟨⟨o, rfl, hq⟩, hb1⟩; have HQ := Aside0.mk hq; have HB1 := Aside0.mk (Below.trans (show Below w.heap.size w _ from (by repeat (first | exact Below.refl _ _ | exact HB1.out | exact HB2.out | apply below_alloc | apply pw_below_drewN | apply below_drew1))) (hb1.mono (below_size (show Below w.heap.size w _ from (by repeat (first | exact Below.refl _ _ | exact HB1.out | exact HB2.out | apply below_alloc | apply pw_below_drewN | apply below_drew1)))))); clear hq hb1)
    | (go_at_call 160; refine (HM _ _ HQ.out HB1.out).mono ?_; rintro e w2 ⟨⟨v, rfl, hv⟩, hb2⟩; obtain rfl : v = _ := hv; have HB2 := Aside0.mk (HB1.out.trans (hb2.mono HB1.out.size)); have HQ2 := Aside0.mk (hQ _ _ _ HQ.out hb2); clear hb2))
  go_ret
  exact ⟨rfl, HB2.out⟩
set_option maxHeartbeats 1000000 in
set_option maxRecDepth 100000 in
theorem check_2 {Q : World → Value → Prop} (hQ : Stays Q) {er : Int} (op : Int) (dst : ByteArray) (v2 v3 : Value) (st : Int) (w : World) (HG : Gives 43 85 (cval op dst v2 v3 st) w Q) (HM : Meth 165 Q w (isE er)) :
    Calls Tryz.prog 15 #[(cval op dst v2 v3 st)] w fun e w' => e = .returned (.int .i64 er) ∧ Below w.heap.size w w' := by
  have hm : ∀ (v : Value) (W : World), Sem.run Tryz.prog (method 342 85 v "smithy/cmd.right") W = .ok (165, v) W := fun _ _ => rfl
  go_enter Tryz.func15, Tryz.ntmps15
  go_wp2_with (first
    | (go_at_call 43; refine (HG _ (by repeat (first | exact Below.refl _ _ | exact HB1.out | exact HB2.out | apply below_alloc | apply pw_below_drewN | apply below_drew1))).mono ?_; rintro e w1 ⟨⟨o, rfl, hq⟩, hb1⟩; have HQ := Aside0.mk hq; have HB1 := Aside0.mk (Below.trans (show Below w.heap.size w _ from (by repeat (first | exact Below.refl _ _ | exact HB1.out | exact HB2.out | apply below_alloc | apply pw_below_drewN | apply below_drew1))) (hb1.mono (below_size (show Below w.heap.size w _ from (by repeat (first | exact Below.refl _ _ | exact HB1.out | exact HB2.out | apply below_alloc | apply pw_below_drewN | apply below_drew1)))))); clear hq hb1)
    | (go_at_call 165; refine (HM _ _ HQ.out HB1.out).mono ?_; rintro e w2 ⟨⟨v, rfl, hv⟩, hb2⟩; obtain rfl : v = _ := hv; have HB2 := Aside0.mk (HB1.out.trans (hb2.mono HB1.out.size)); have HQ2 := Aside0.mk (hQ _ _ _ HQ.out hb2); clear hb2))
  go_ret
  exact ⟨rfl, HB2.out⟩
set_option maxHeartbeats 1000000 in
set_option maxRecDepth 100000 in
theorem check_3 {Q : World → Value → Prop} (hQ : Stays Q) {er : Int} (op : Int) (dst : ByteArray) (v2 v3 : Value) (st : Int) (w : World) (HG : Gives 43 87 (cval op dst v2 v3 st) w Q) (HM : Meth 173 Q w (isE er)) :
    Calls Tryz.prog 15 #[(cval op dst v2 v3 st)] w fun e w' => e = .returned (.int .i64 er) ∧ Below w.heap.size w w' := by
  have hm : ∀ (v : Value) (W : World), Sem.run Tryz.prog (method 342 87 v "smithy/cmd.right") W = .ok (173, v) W := fun _ _ => rfl
  go_enter Tryz.func15, Tryz.ntmps15
  go_wp2_with (first
    | (go_at_call 43; refine (HG _ (by repeat (first | exact Below.refl _ _ | exact HB1.out | exact HB2.out | apply below_alloc | apply pw_below_drewN | apply below_drew1))).mono ?_; rintro e w1 ⟨⟨o, rfl, hq⟩, hb1⟩; have HQ := Aside0.mk hq; have HB1 := Aside0.mk (Below.trans (show Below w.heap.size w _ from (by repeat (first | exact Below.refl _ _ | exact HB1.out | exact HB2.out | apply below_alloc | apply pw_below_drewN | apply below_drew1))) (hb1.mono (below_size (show Below w.heap.size w _ from (by repeat (first | exact Below.refl _ _ | exact HB1.out | exact HB2.out | apply below_alloc | apply pw_below_drewN | apply below_drew1)))))); clear hq hb1)
    | (go_at_call 173; refine (HM _ _ HQ.out HB1.out).mono ?_; rintro e w2 ⟨⟨v, rfl, hv⟩, hb2⟩; obtain rfl : v = _ := hv; have HB2 := Aside0.mk (HB1.out.trans (hb2.mono HB1.out.size)); have HQ2 := Aside0.mk (hQ _ _ _ HQ.out hb2); clear hb2))
  go_ret
  exact ⟨rfl, HB2.out⟩
set_option maxHeartbeats 1000000 in
set_option maxRecDepth 100000 in
theorem check_4 {Q : World → Value → Prop} (hQ : Stays Q) {er : Int} (op : Int) (dst : ByteArray) (v2 v3 : Value) (st : Int) (w : World) (HG : Gives 43 89 (cval op dst v2 v3 st) w Q) (HM : Meth 180 Q w (isE er)) :
    Calls Tryz.prog 15 #[(cval op dst v2 v3 st)] w fun e w' => e = .returned (.int .i64 er) ∧ Below w.heap.size w w' := by
  have hm : ∀ (v : Value) (W : World), Sem.run Tryz.prog (method 342 89 v "smithy/cmd.right") W = .ok (180, v) W := fun _ _ => rfl
  go_enter Tryz.func15, Tryz.ntmps15
  go_wp2_with (first
    | (go_at_call 43; refine (HG _ (by repeat (first | exact Below.refl _ _ | exact HB1.out | exact HB2.out | apply below_alloc | apply pw_below_drewN | apply below_drew1))).mono ?_; rintro e w1 ⟨⟨o, rfl, hq⟩, hb1⟩; have HQ := Aside0.mk hq; have HB1 := Aside0.mk (Below.trans (show Below w.heap.size w _ from (by repeat (first | exact Below.refl _ _ | exact HB1.out | exact HB2.out | apply below_alloc | apply pw_below_drewN | apply below_drew1))) (hb1.mono (below_size (show Below w.heap.size w _ from (by repeat (first | exact Below.refl _ _ | exact HB1.out | exact HB2.out | apply below_alloc | apply pw_below_drewN | apply below_drew1)))))); clear hq hb1)
    | (go_at_call 180; refine (HM _ _ HQ.out HB1.out).mono ?_; rintro e w2 ⟨⟨v, rfl, hv⟩, hb2⟩; obtain rfl : v = _ := hv; have HB2 := Aside0.mk (HB1.out.trans (hb2.mono HB1.out.size)); have HQ2 := Aside0.mk (hQ _ _ _ HQ.out hb2); clear hb2))
  go_ret
  exact ⟨rfl, HB2.out⟩
set_option maxHeartbeats 1000000 in
set_option maxRecDepth 100000 in
theorem check_5 {Q : World → Value → Prop} (hQ : Stays Q) {er : Int} (op : Int) (dst : ByteArray) (v2 v3 : Value) (st : Int) (w : World) (HG : Gives 43 90 (cval op dst v2 v3 st) w Q) (HM : Meth 185 Q w (isE er)) :
    Calls Tryz.prog 15 #[(cval op dst v2 v3 st)] w fun e w' => e = .returned (.int .i64 er) ∧ Below w.heap.size w w' := by
  have hm : ∀ (v : Value) (W : World), Sem.run Tryz.prog (method 342 90 v "smithy/cmd.right") W = .ok (185, v) W := fun _ _ => rfl
  go_enter Tryz.func15, Tryz.ntmps15
  go_wp2_with (first
    | (go_at_call 43; refine (HG _ (by repeat (first | exact Below.refl _ _ | exact HB1.out | exact HB2.out | apply below_alloc | apply pw_below_drewN | apply below_drew1))).mono ?_; rintro e w1 ⟨⟨o, rfl, hq⟩, hb1⟩; have HQ := Aside0.mk hq; have HB1 := Aside0.mk (Below.trans (show Below w.heap.size w _ from (by repeat (first | exact Below.refl _ _ | exact HB1.out | exact HB2.out | apply below_alloc | apply pw_below_drewN | apply below_drew1))) (hb1.mono (below_size (show Below w.heap.size w _ from (by repeat (first | exact Below.refl _ _ | exact HB1.out | exact HB2.out | apply below_alloc | apply pw_below_drewN | apply below_drew1)))))); clear hq hb1)
    | (go_at_call 185; refine (HM _ _ HQ.out HB1.out).mono ?_; rintro e w2 ⟨⟨v, rfl, hv⟩, hb2⟩; obtain rfl : v = _ := hv; have HB2 := Aside0.mk (HB1.out.trans (hb2.mono HB1.out.size)); have HQ2 := Aside0.mk (hQ _ _ _ HQ.out hb2); clear hb2))
  go_ret
  exact ⟨rfl, HB2.out⟩
set_option maxHeartbeats 1000000 in
set_option maxRecDepth 100000 in
theorem check_6 {Q : World → Value → Prop} (hQ : Stays Q) {er : Int} (op : Int) (dst : ByteArray) (v2 v3 : Value) (st : Int) (w : World) (HG : Gives 43 92 (cval op dst v2 v3 st) w Q) (HM : Meth 190 Q w (isE er)) :
    Calls Tryz.prog 15 #[(cval op dst v2 v3 st)] w fun e w' => e = .returned (.int .i64 er) ∧ Below w.heap.size w w' := by
  have hm : ∀ (v : Value) (W : World), Sem.run Tryz.prog (method 342 92 v "smithy/cmd.right") W = .ok (190, v) W := fun _ _ => rfl
  go_enter Tryz.func15, Tryz.ntmps15
  go_wp2_with (first
    | (go_at_call 43; refine (HG _ (by repeat (first | exact Below.refl _ _ | exact HB1.out | exact HB2.out | apply below_alloc | apply pw_below_drewN | apply below_drew1))).mono ?_; rintro e w1 ⟨⟨o, rfl, hq⟩, hb1⟩; have HQ := Aside0.mk hq; have HB1 := Aside0.mk (Below.trans (show Below w.heap.size w _ from (by repeat (first | exact Below.refl _ _ | exact HB1.out | exact HB2.out | apply below_alloc | apply pw_below_drewN | apply below_drew1))) (hb1.mono (below_size (show Below w.heap.size w _ from (by repeat (first | exact Below.refl _ _ | exact HB1.out | exact HB2.out | apply below_alloc | apply pw_below_drewN | apply below_drew1)))))); clear hq hb1)
    | (go_at_call 190; refine (HM _ _ HQ.out HB1.out).mono ?_; rintro e w2 ⟨⟨v, rfl, hv⟩, hb2⟩; obtain rfl : v = _ := hv; have HB2 := Aside0.mk (HB1.out.trans (hb2.mono HB1.out.size)); have HQ2 := Aside0.mk (hQ _ _ _ HQ.out hb2); clear hb2))
  go_ret
  exact ⟨rfl, HB2.out⟩
set_option maxHeartbeats 1000000 in
set_option maxRecDepth 100000 in
theorem check_7 {Q : World → Value → Prop} (hQ : Stays Q) {er : Int} (op : Int) (dst : ByteArray) (v2 v3 : Value) (st : Int) (w : World) (HG : Gives 43 94 (cval op dst v2 v3 st) w Q) (HM : Meth 195 Q w (isE er)) :
    Calls Tryz.prog 15 #[(cval op dst v2 v3 st)] w fun e w' => e = .returned (.int .i64 er) ∧ Below w.heap.size w w' := by
  have hm : ∀ (v : Value) (W : World), Sem.run Tryz.prog (method 342 94 v "smithy/cmd.right") W = .ok (195, v) W := fun _ _ => rfl
  go_enter Tryz.func15, Tryz.ntmps15
  go_wp2_with (first
    | (go_at_call 43; refine (HG _ (by repeat (first | exact Below.refl _ _ | exact HB1.out | exact HB2.out | apply below_alloc | apply pw_below_drewN | apply below_drew1))).mono ?_; rintro e w1 ⟨⟨o, rfl, hq⟩, hb1⟩; have HQ := Aside0.mk hq; have HB1 := Aside0.mk (Below.trans (show Below w.heap.size w _ from (by repeat (first | exact Below.refl _ _ | exact HB1.out | exact HB2.out | apply below_alloc | apply pw_below_drewN | apply below_drew1))) (hb1.mono (below_size (show Below w.heap.size w _ from (by repeat (first | exact Below.refl _ _ | exact HB1.out | exact HB2.out | apply below_alloc | apply pw_below_drewN | apply below_drew1)))))); clear hq hb1)
    | (go_at_call 195; refine (HM _ _ HQ.out HB1.out).mono ?_; rintro e w2 ⟨⟨v, rfl, hv⟩, hb2⟩; obtain rfl : v = _ := hv; have HB2 := Aside0.mk (HB1.out.trans (hb2.mono HB1.out.size)); have HQ2 := Aside0.mk (hQ _ _ _ HQ.out hb2); clear hb2))
  go_ret
  exact ⟨rfl, HB2.out⟩
set_option maxHeartbeats 1000000 in
set_option maxRecDepth 100000 in
theorem check_8 {Q : World → Value → Prop} (hQ : Stays Q) {er : Int} (op : Int) (dst : ByteArray) (v2 v3 : Value) (st : Int) (w : World) (HG : Gives 43 96 (cval op dst v2 v3 st) w Q) (HM : Meth 200 Q w (isE er)) :
    Calls Tryz.prog 15 #[(cval op dst v2 v3 st)] w fun e w' => e = .returned (.int .i64 er) ∧ Below w.heap.size w w' := by
  have hm : ∀ (v : Value) (W : World), Sem.run Tryz.prog (method 342 96 v "smithy/cmd.right") W = .ok (200, v) W := fun _ _ => rfl
  go_enter Tryz.func15, Tryz.ntmps15
  go_wp2_with (first
    | (go_at_call 43; refine (HG _ (by repeat (first | exact Below.refl _ _ | exact HB1.out | exact HB2.out | apply below_alloc | apply pw_below_drewN | apply below_drew1))).mono ?_; rintro e w1 ⟨⟨o, rfl, hq⟩, hb1⟩; have HQ := Aside0.mk hq; have HB1 := Aside0.mk (Below.trans (show Below w.heap.size w _ from (by repeat (first | exact Below.refl _ _ | exact HB1.out | exact HB2.out | apply below_alloc | apply pw_below_drewN | apply below_drew1))) (hb1.mono (below_size (show Below w.heap.size w _ from (by repeat (first | exact Below.refl _ _ | exact HB1.out | exact HB2.out | apply below_alloc | apply pw_below_drewN | apply below_drew1)))))); clear hq hb1)
    | (go_at_call 200; refine (HM _ _ HQ.out HB1.out).mono ?_; rintro e w2 ⟨⟨v, rfl, hv⟩, hb2⟩; obtain rfl : v = _ := hv; have HB2 := Aside0.mk (HB1.out.trans (hb2.mono HB1.out.size)); have HQ2 := Aside0.mk (hQ _ _ _ HQ.out hb2); clear hb2))
  go_ret
  exact ⟨rfl, HB2.out⟩
end Go.Proofs.YtpiafpkpdbknfaaGreatDoor.Sup
