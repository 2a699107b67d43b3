/- cmd.told and its callers: writes. Conditions: those in each statement. -/
import Derived.Test.YtpiafpkpdbknfaaGreatDoorSSay1
namespace Go.Proofs.YtpiafpkpdbknfaaGreatDoor.Sup
open Go.RowKit Go.Proofs.YtpiafpkpdbknfaaGreatDoorW.PrintWords Go.Proofs.YtpiafpkpdbknfaaGreatDoorW.PrintLast Go.Proofs.YtpiafpkpdbknfaaGreatDoorW.PrintMore
attribute [local go_sem] max2_int min2_int max_two min_two max_three min_three max_four min_four
set_option linter.unusedVariables false
set_option linter.unusedSimpArgs false
set_option maxHeartbeats 1000000 in
set_option maxRecDepth 100000 in
theorem writes_none (op : Int) (dst : ByteArray) (v2 v3 : Value) (st : Int) (w : World) {er : Int} (her : (er != 0) = true) (her0 : (er == 0) = false) (HG : Fails 44 (cval op dst v2 v3 st) w er) :
    Calls Tryz.prog 17 #[(cval op dst v2 v3 st)] w fun e w' => e = .returned (.tuple #[.string ⟨#[]⟩, .bool false, .int .i64 er]) ∧ Below w.heap.size w w' := by
  go_enter Tryz.func17, Tryz.ntmps17
  go_wp2_with (first
    | (go_at_call 44; refine (HG _ (by repeat (first | exact Below.refl _ _ | exact HB1.out | exact HB2.out | apply below_alloc | apply pw_below_drewN | apply below_drew1))).mono ?_; rintro e w1 ⟨rfl, hb1⟩; have HB1 := Aside0.mk (Below.trans (show Below w.heap.size w _ from (by repeat (first | exact Below.refl _ _ | exact HB1.out | exact HB2.out | apply below_alloc | apply pw_below_drewN | apply below_drew1))) (hb1.mono (below_size (show Below w.heap.size w _ from (by repeat (first | exact Below.refl _ _ | exact HB1.out | exact HB2.out | apply below_alloc | apply pw_below_drewN | apply below_drew1)))))); clear hb1))
  go_ret3
  exact ⟨rfl, HB1.out⟩
set_option maxHeartbeats 1000000 in
set_option maxRecDepth 100000 in
theorem writes_2 {Q : World → Value → Prop} (hQ : Stays Q) {a b : Value} (op : Int) (dst : ByteArray) (v2 v3 : Value) (st : Int) (w : World) (HG : Gives 44 85 (cval op dst v2 v3 st) w Q) (HM : Meth2 168 Q w a b) :
    Calls Tryz.prog 17 #[(cval op dst v2 v3 st)] w fun e w' => e = .returned (.tuple #[a, b, .int .i64 0]) ∧ Below w.heap.size w w' := by
  have hm : ∀ (v : Value) (W : World), Sem.run Tryz.prog (method 342 85 v "smithy/cmd.writes") W = .ok (168, v) W := fun _ _ => rfl
  go_enter Tryz.func17, Tryz.ntmps17
  go_wp2_with (first
    | (go_at_call 44; refine (HG _ (by repeat (first | exact Below.refl _ _ | exact HB1.out | exact HB2.out | apply below_alloc | apply pw_below_drewN | apply below_drew1))).mono ?_; rintro e w1 ⟨⟨o, rfl, hq⟩, hb1⟩; have HQ := Aside0.mk hq; have HB1 := Aside0.mk (Below.trans (show Below w.heap.size w _ from (by repeat (first | exact Below.refl _ _ | exact HB1.out | exact HB2.out | apply below_alloc | apply pw_below_drewN | apply below_drew1))) (hb1.mono (below_size (show Below w.heap.size w _ from (by repeat (first | exact Below.refl _ _ | exact HB1.out | exact HB2.out | apply below_alloc | apply pw_below_drewN | apply below_drew1)))))); clear hq hb1)
    | (go_at_call 168; refine (HM _ _ HQ.out HB1.out).mono ?_; rintro e w2 ⟨rfl, hb2⟩; have HB2 := Aside0.mk (HB1.out.trans (hb2.mono HB1.out.size)); have HQ2 := Aside0.mk (hQ _ _ _ HQ.out hb2); clear hb2))
  go_ret3
  exact ⟨rfl, HB2.out⟩
set_option maxHeartbeats 1000000 in
set_option maxRecDepth 100000 in
theorem writes_3 {Q : World → Value → Prop} (hQ : Stays Q) {a b : Value} (op : Int) (dst : ByteArray) (v2 v3 : Value) (st : Int) (w : World) (HG : Gives 44 87 (cval op dst v2 v3 st) w Q) (HM : Meth2 176 Q w a b) :
    Calls Tryz.prog 17 #[(cval op dst v2 v3 st)] w fun e w' => e = .returned (.tuple #[a, b, .int .i64 0]) ∧ Below w.heap.size w w' := by
  have hm : ∀ (v : Value) (W : World), Sem.run Tryz.prog (method 342 87 v "smithy/cmd.writes") W = .ok (176, v) W := fun _ _ => rfl
  go_enter Tryz.func17, Tryz.ntmps17
  go_wp2_with (first
    | (go_at_call 44; refine (HG _ (by repeat (first | exact Below.refl _ _ | exact HB1.out | exact HB2.out | apply below_alloc | apply pw_below_drewN | apply below_drew1))).mono ?_; rintro e w1 ⟨⟨o, rfl, hq⟩, hb1⟩; have HQ := Aside0.mk hq; have HB1 := Aside0.mk (Below.trans (show Below w.heap.size w _ from (by repeat (first | exact Below.refl _ _ | exact HB1.out | exact HB2.out | apply below_alloc | apply pw_below_drewN | apply below_drew1))) (hb1.mono (below_size (show Below w.heap.size w _ from (by repeat (first | exact Below.refl _ _ | exact HB1.out | exact HB2.out | apply below_alloc | apply pw_below_drewN | apply below_drew1)))))); clear hq hb1)
    | (go_at_call 176; refine (HM _ _ HQ.out HB1.out).mono ?_; rintro e w2 ⟨rfl, hb2⟩; have HB2 := Aside0.mk (HB1.out.trans (hb2.mono HB1.out.size)); have HQ2 := Aside0.mk (hQ _ _ _ HQ.out hb2); clear hb2))
  go_ret3
  exact ⟨rfl, HB2.out⟩
set_option maxHeartbeats 1000000 in
set_option maxRecDepth 100000 in
theorem writes_4 {Q : World → Value → Prop} (hQ : Stays Q) {a b : Value} (op : Int) (dst : ByteArray) (v2 v3 : Value) (st : Int) (w : World) (HG : Gives 44 89 (cval op dst v2 v3 st) w Q) (HM : Meth2 183 Q w a b) :
    Calls Tryz.prog 17 #[(cval op dst v2 v3 st)] w fun e w' => e = .returned (.tuple #[a, b, .int .i64 0]) ∧ Below w.heap.size w w' := by
  have hm : ∀ (v : Value) (W : World), Sem.run Tryz.prog (method 342 89 v "smithy/cmd.writes") W = .ok (183, v) W := fun _ _ => rfl
  go_enter Tryz.func17, Tryz.ntmps17
  go_wp2_with (first
    | (go_at_call 44; refine (HG _ (by repeat (first | exact Below.refl _ _ | exact HB1.out | exact HB2.out | apply below_alloc | apply pw_below_drewN | apply below_drew1))).mono ?_; rintro e w1 ⟨⟨o, rfl, hq⟩, hb1⟩; have HQ := Aside0.mk hq; have HB1 := Aside0.mk (Below.trans (show Below w.heap.size w _ from (by repeat (first | exact Below.refl _ _ | exact HB1.out | exact HB2.out | apply below_alloc | apply pw_below_drewN | apply below_drew1))) (hb1.mono (below_size (show Below w.heap.size w _ from (by repeat (first | exact Below.refl _ _ | exact HB1.out | exact HB2.out | apply below_alloc | apply pw_below_drewN | apply below_drew1)))))); clear hq hb1)
    | (go_at_call 183; refine (HM _ _ HQ.out HB1.out).mono ?_; rintro e w2 ⟨rfl, hb2⟩; have HB2 := Aside0.mk (HB1.out.trans (hb2.mono HB1.out.size)); have HQ2 := Aside0.mk (hQ _ _ _ HQ.out hb2); clear hb2))
  go_ret3
  exact ⟨rfl, HB2.out⟩
set_option maxHeartbeats 1000000 in
set_option maxRecDepth 100000 in
theorem writes_5 {Q : World → Value → Prop} (hQ : Stays Q) {a b : Value} (op : Int) (dst : ByteArray) (v2 v3 : Value) (st : Int) (w : World) (HG : Gives 44 90 (cval op dst v2 v3 st) w Q) (HM : Meth2 188 Q w a b) :
    Calls Tryz.prog 17 #[(cval op dst v2 v3 st)] w fun e w' => e = .returned (.tuple #[a, b, .int .i64 0]) ∧ Below w.heap.size w w' := by
  have hm : ∀ (v : Value) (W : World), Sem.run Tryz.prog (method 342 90 v "smithy/cmd.writes") W = .ok (188, v) W := fun _ _ => rfl
  go_enter Tryz.func17, Tryz.ntmps17
  go_wp2_with (first
    | (go_at_call 44; refine (HG _ (by repeat (first | exact Below.refl _ _ | exact HB1.out | exact HB2.out | apply below_alloc | apply pw_below_drewN | apply below_drew1))).mono ?_; rintro e w1 ⟨⟨o, rfl, hq⟩, hb1⟩; have HQ := Aside0.mk hq; have HB1 := Aside0.mk (Below.trans (show Below w.heap.size w _ from (by repeat (first | exact Below.refl _ _ | exact HB1.out | exact HB2.out | apply below_alloc | apply pw_below_drewN | apply below_drew1))) (hb1.mono (below_size (show Below w.heap.size w _ from (by repeat (first | exact Below.refl _ _ | exact HB1.out | exact HB2.out | apply below_alloc | apply pw_below_drewN | apply below_drew1)))))); clear hq hb1)
    | (go_at_call 188; refine (HM _ _ HQ.out HB1.out).mono ?_; rintro e w2 ⟨rfl, hb2⟩; have HB2 := Aside0.mk (HB1.out.trans (hb2.mono HB1.out.size)); have HQ2 := Aside0.mk (hQ _ _ _ HQ.out hb2); clear hb2))
  go_ret3
  exact ⟨rfl, HB2.out⟩
set_option maxHeartbeats 1000000 in
set_option maxRecDepth 100000 in
theorem writes_6 {Q : World → Value → Prop} (hQ : Stays Q) {a b : Value} (op : Int) (dst : ByteArray) (v2 v3 : Value) (st : Int) (w : World) (HG : Gives 44 92 (cval op dst v2 v3 st) w Q) (HM : Meth2 193 Q w a b) :
    Calls Tryz.prog 17 #[(cval op dst v2 v3 st)] w fun e w' => e = .returned (.tuple #[a, b, .int .i64 0]) ∧ Below w.heap.size w w' := by
  have hm : ∀ (v : Value) (W : World), Sem.run Tryz.prog (method 342 92 v "smithy/cmd.writes") W = .ok (193, v) W := fun _ _ => rfl
  go_enter Tryz.func17, Tryz.ntmps17
  go_wp2_with (first
    | (go_at_call 44; refine (HG _ (by repeat (first | exact Below.refl _ _ | exact HB1.out | exact HB2.out | apply below_alloc | apply pw_below_drewN | apply below_drew1))).mono ?_; rintro e w1 ⟨⟨o, rfl, hq⟩, hb1⟩; have HQ := Aside0.mk hq; have HB1 := Aside0.mk (Below.trans (show Below w.heap.size w _ from (by repeat (first | exact Below.refl _ _ | exact HB1.out | exact HB2.out | apply below_alloc | apply pw_below_drewN | apply below_drew1))) (hb1.mono (below_size (show Below w.heap.size w _ from (by repeat (first | exact Below.refl _ _ | exact HB1.out | exact HB2.out | apply below_alloc | apply pw_below_drewN | apply below_drew1)))))); clear hq hb1)
    | (go_at_call 193; refine (HM _ _ HQ.out HB1.out).mono ?_; rintro e w2 ⟨rfl, hb2⟩; have HB2 := Aside0.mk (HB1.out.trans (hb2.mono HB1.out.size)); have HQ2 := Aside0.mk (hQ _ _ _ HQ.out hb2); clear hb2))
  go_ret3
  exact ⟨rfl, HB2.out⟩
set_option maxHeartbeats 1000000 in
set_option maxRecDepth 100000 in
theorem writes_7 {Q : World → Value → Prop} (hQ : Stays Q) {a b : Value} (op : Int) (dst : ByteArray) (v2 v3 : Value) (st : Int) (w : World) (HG : Gives 44 94 (cval op dst v2 v3 st) w Q) (HM : Meth2 198 Q w a b) :
    Calls Tryz.prog 17 #[(cval op dst v2 v3 st)] w fun e w' => e = .returned (.tuple #[a, b, .int .i64 0]) ∧ Below w.heap.size w w' := by
  have hm : ∀ (v : Value) (W : World), Sem.run Tryz.prog (method 342 94 v "smithy/cmd.writes") W = .ok (198, v) W := fun _ _ => rfl
  go_enter Tryz.func17, Tryz.ntmps17
  go_wp2_with (first
    | (go_at_call 44; refine (HG _ (by repeat (first | exact Below.refl _ _ | exact HB1.out | exact HB2.out | apply below_alloc | apply pw_below_drewN | apply below_drew1))).mono ?_; rintro e w1 ⟨⟨o, rfl, hq⟩, hb1⟩; have HQ := Aside0.mk hq; have HB1 := Aside0.mk (Below.trans (show Below w.heap.size w _ from (by repeat (first | exact Below.refl _ _ | exact HB1.out | exact HB2.out | apply below_alloc | apply pw_below_drewN | apply below_drew1))) (hb1.mono (below_size (show Below w.heap.size w _ from (by repeat (first | exact Below.refl _ _ | exact HB1.out | exact HB2.out | apply below_alloc | apply pw_below_drewN | apply below_drew1)))))); clear hq hb1)
    | (go_at_call 198; refine (HM _ _ HQ.out HB1.out).mono ?_; rintro e w2 ⟨rfl, hb2⟩; have HB2 := Aside0.mk (HB1.out.trans (hb2.mono HB1.out.size)); have HQ2 := Aside0.mk (hQ _ _ _ HQ.out hb2); clear hb2))
  go_ret3
  exact ⟨rfl, HB2.out⟩
set_option maxHeartbeats 1000000 in
set_option maxRecDepth 100000 in
theorem writes_8 {Q : World → Value → Prop} (hQ : Stays Q) {a b : Value} (op : Int) (dst : ByteArray) (v2 v3 : Value) (st : Int) (w : World) (HG : Gives 44 96 (cval op dst v2 v3 st) w Q) (HM : Meth2 203 Q w a b) :
    Calls Tryz.prog 17 #[(cval op dst v2 v3 st)] w fun e w' => e = .returned (.tuple #[a, b, .int .i64 0]) ∧ Below w.heap.size w w' := by
  have hm : ∀ (v : Value) (W : World), Sem.run Tryz.prog (method 342 96 v "smithy/cmd.writes") W = .ok (203, v) W := fun _ _ => rfl
  go_enter Tryz.func17, Tryz.ntmps17
  go_wp2_with (first
    | (go_at_call 44; refine (HG _ (by repeat (first | exact Below.refl _ _ | exact HB1.out | exact HB2.out | apply below_alloc | apply pw_below_drewN | apply below_drew1))).mono ?_; rintro e w1 ⟨⟨o, rfl, hq⟩, hb1⟩; have HQ := Aside0.mk hq; have HB1 := Aside0.mk (Below.trans (show Below w.heap.size w _ from (by repeat (first | exact Below.refl _ _ | exact HB1.out | exact HB2.out | apply below_alloc | apply pw_below_drewN | apply below_drew1))) (hb1.mono (below_size (show Below w.heap.size w _ from (by repeat (first | exact Below.refl _ _ | exact HB1.out | exact HB2.out | apply below_alloc | apply pw_below_drewN | apply below_drew1)))))); clear hq hb1)
    | (go_at_call 203; refine (HM _ _ HQ.out HB1.out).mono ?_; rintro e w2 ⟨rfl, hb2⟩; have HB2 := Aside0.mk (HB1.out.trans (hb2.mono HB1.out.size)); have HQ2 := Aside0.mk (hQ _ _ _ HQ.out hb2); clear hb2))
  go_ret3
  exact ⟨rfl, HB2.out⟩
end Go.Proofs.YtpiafpkpdbknfaaGreatDoor.Sup
