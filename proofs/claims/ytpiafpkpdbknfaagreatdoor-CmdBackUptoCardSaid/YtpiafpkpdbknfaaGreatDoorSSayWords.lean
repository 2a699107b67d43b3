/- cmd.told and its callers: words. Conditions: those in each statement. -/
import Derived.Test.YtpiafpkpdbknfaaGreatDoorSSayBase
namespace Go.Proofs.YtpiafpkpdbknfaaGreatDoor.Sup
open Go.RowKit Go.Proofs.YtpiafpkpdbknfaaGreatDoorW.PrintWords Go.Proofs.YtpiafpkpdbknfaaGreatDoorW.PrintLast Go.Proofs.YtpiafpkpdbknfaaGreatDoorW.PrintMore
attribute [local go_sem] max2_int min2_int max_two min_two max_three min_three max_four min_four
set_option linter.unusedVariables false
set_option linter.unusedSimpArgs false
set_option maxHeartbeats 1000000 in
set_option maxRecDepth 100000 in
theorem words_none (op : Int) (dst : ByteArray) (v2 v3 : Value) (st : Int) (w : World) {er : Int} (her : (er != 0) = true) (her0 : (er == 0) = false) (HG : Fails 44 (cval op dst v2 v3 st) w er) :
    Calls Tryz.prog 18 #[(cval op dst v2 v3 st)] w fun e w' => e = .returned (.tuple #[.slice none 0 0, .int .i64 er]) ∧ Below w.heap.size w w' := by
  go_enter Tryz.func18, Tryz.ntmps18
  go_wp2_with (first
    | (go_at_call 44; refine (HG _ (by repeat (first | exact Below.refl _ _ | exact HB1.out | exact HB2.out | apply below_alloc | apply pw_below_drewN | apply below_drew1))).mono ?_; rintro e w1 ⟨rfl, hb1⟩; have HB1 := Aside0.mk (Below.trans (show Below w.heap.size w _ from (by repeat (first | exact Below.refl _ _ | exact HB1.out | exact HB2.out | apply below_alloc | apply pw_below_drewN | apply below_drew1))) (hb1.mono (below_size (show Below w.heap.size w _ from (by repeat (first | exact Below.refl _ _ | exact HB1.out | exact HB2.out | apply below_alloc | apply pw_below_drewN | apply below_drew1)))))); clear hb1))
  go_ret2
  exact ⟨rfl, HB1.out⟩
set_option maxHeartbeats 1000000 in
set_option maxRecDepth 100000 in
theorem words_1 {Q R : World → Value → Prop} (hQ : Stays Q) (op : Int) (dst : ByteArray) (v2 v3 : Value) (st : Int) (w : World) (HG : Gives 44 83 (cval op dst v2 v3 st) w Q) (HM : Meth 162 Q w R) :
    Calls Tryz.prog 18 #[(cval op dst v2 v3 st)] w fun e w' => (∃ v, e = .returned (.tuple #[v, .int .i64 0]) ∧ R w' v) ∧ Below w.heap.size w w' := by
  have hm : ∀ (v : Value) (W : World), Sem.run Tryz.prog (method 342 83 v "smithy/cmd.words") W = .ok (162, v) W := fun _ _ => rfl
  go_enter Tryz.func18, Tryz.ntmps18
  go_wp2_with (first
    | (go_at_call 44; refine (HG _ (by repeat (first | exact Below.refl _ _ | exact HB1.out | exact HB2.out | apply below_alloc | apply pw_below_drewN | apply below_drew1))).mono ?_; rintro e w1 ⟨⟨o, rfl, hq⟩, hb1⟩; have HQ := Aside0.mk hq; have HB1 := Aside0.mk (Below.trans (show Below w.heap.size w _ from (by repeat (first | exact Below.refl _ _ | exact HB1.out | exact HB2.out | apply below_alloc | apply pw_below_drewN | apply below_drew1))) (hb1.mono (below_size (show Below w.heap.size w _ from (by repeat (first | exact Below.refl _ _ | exact HB1.out | exact HB2.out | apply below_alloc | apply pw_below_drewN | apply below_drew1)))))); clear hq hb1)
    | (go_at_call 162; refine (HM _ _ HQ.out HB1.out).mono ?_; rintro e w2 ⟨⟨v, rfl, hv⟩, hb2⟩; have HV := Aside0.mk hv; clear hv; have HB2 := Aside0.mk (HB1.out.trans (hb2.mono HB1.out.size)); have HQ2 := Aside0.mk (hQ _ _ _ HQ.out hb2); clear hb2))
  go_ret2
  exact ⟨⟨v, rfl, HV.out⟩, HB2.out⟩
set_option maxHeartbeats 1000000 in
set_option maxRecDepth 100000 in
theorem words_2 {Q R : World → Value → Prop} (hQ : Stays Q) (op : Int) (dst : ByteArray) (v2 v3 : Value) (st : Int) (w : World) (HG : Gives 44 85 (cval op dst v2 v3 st) w Q) (HM : Meth 167 Q w R) :
    Calls Tryz.prog 18 #[(cval op dst v2 v3 st)] w fun e w' => (∃ v, e = .returned (.tuple #[v, .int .i64 0]) ∧ R w' v) ∧ Below w.heap.size w w' := by
  have hm : ∀ (v : Value) (W : World), Sem.run Tryz.prog (method 342 85 v "smithy/cmd.words") W = .ok (167, v) W := fun _ _ => rfl
  go_enter Tryz.func18, Tryz.ntmps18
  go_wp2_with (first
    | (go_at_call 44; refine (HG _ (by repeat (first | exact Below.refl _ _ | exact HB1.out | exact HB2.out | apply below_alloc | apply pw_below_drewN | apply below_drew1))).mono ?_; rintro e w1 ⟨⟨o, rfl, hq⟩, hb1⟩; have HQ := Aside0.mk hq; have HB1 := Aside0.mk (Below.trans (show Below w.heap.size w _ from (by repeat (first | exact Below.refl _ _ | exact HB1.out | exact HB2.out | apply below_alloc | apply pw_below_drewN | apply below_drew1))) (hb1.mono (below_size (show Below w.heap.size w _ from (by repeat (first | exact Below.refl _ _ | exact HB1.out | exact HB2.out | apply below_alloc | apply pw_below_drewN | apply below_drew1)))))); clear hq hb1)
    | (go_at_call 167; refine (HM _ _ HQ.out HB1.out).mono ?_; rintro e w2 ⟨⟨v, rfl, hv⟩, hb2⟩; have HV := Aside0.mk hv; clear hv; have HB2 := Aside0.mk (HB1.out.trans (hb2.mono HB1.out.size)); have HQ2 := Aside0.mk (hQ _ _ _ HQ.out hb2); clear hb2))
  go_ret2
  exact ⟨⟨v, rfl, HV.out⟩, HB2.out⟩
set_option maxHeartbeats 1000000 in
set_option maxRecDepth 100000 in
theorem words_3 {Q R : World → Value → Prop} (hQ : Stays Q) (op : Int) (dst : ByteArray) (v2 v3 : Value) (st : Int) (w : World) (HG : Gives 44 87 (cval op dst v2 v3 st) w Q) (HM : Meth 175 Q w R) :
    Calls Tryz.prog 18 #[(cval op dst v2 v3 st)] w fun e w' => (∃ v, e = .returned (.tuple #[v, .int .i64 0]) ∧ R w' v) ∧ Below w.heap.size w w' := by
  have hm : ∀ (v : Value) (W : World), Sem.run Tryz.prog (method 342 87 v "smithy/cmd.words") W = .ok (175, v) W := fun _ _ => rfl
  go_enter Tryz.func18, Tryz.ntmps18
  go_wp2_with (first
    | (go_at_call 44; refine (HG _ (by repeat (first | exact Below.refl _ _ | exact HB1.out | exact HB2.out | apply below_alloc | apply pw_below_drewN | apply below_drew1))).mono ?_; rintro e w1 ⟨⟨o, rfl, hq⟩, hb1⟩; have HQ := Aside0.mk hq; have HB1 := Aside0.mk (Below.trans (show Below w.heap.size w _ from (by repeat (first | exact Below.refl _ _ | exact HB1.out | exact HB2.out | apply below_alloc | apply pw_below_drewN | apply below_drew1))) (hb1.mono (below_size (show Below w.heap.size w _ from (by repeat (first | exact Below.refl _ _ | exact HB1.out | exact HB2.out | apply below_alloc | apply pw_below_drewN | apply below_drew1)))))); clear hq hb1)
    | (go_at_call 175; refine (HM _ _ HQ.out HB1.out).mono ?_; rintro e w2 ⟨⟨v, rfl, hv⟩, hb2⟩; have HV := Aside0.mk hv; clear hv; have HB2 := Aside0.mk (HB1.out.trans (hb2.mono HB1.out.size)); have HQ2 := Aside0.mk (hQ _ _ _ HQ.out hb2); clear hb2))
  go_ret2
  exact ⟨⟨v, rfl, HV.out⟩, HB2.out⟩
set_option maxHeartbeats 1000000 in
set_option maxRecDepth 100000 in
theorem words_4 {Q R : World → Value → Prop} (hQ : Stays Q) (op : Int) (dst : ByteArray) (v2 v3 : Value) (st : Int) (w : World) (HG : Gives 44 89 (cval op dst v2 v3 st) w Q) (HM : Meth 182 Q w R) :
    Calls Tryz.prog 18 #[(cval op dst v2 v3 st)] w fun e w' => (∃ v, e = .returned (.tuple #[v, .int .i64 0]) ∧ R w' v) ∧ Below w.heap.size w w' := by
  have hm : ∀ (v : Value) (W : World), Sem.run Tryz.prog (method 342 89 v "smithy/cmd.words") W = .ok (182, v) W := fun _ _ => rfl
  go_enter Tryz.func18, Tryz.ntmps18
  go_wp2_with (first
    | (go_at_call 44; refine (HG _ (by repeat (first | exact Below.refl _ _ | exact HB1.out | exact HB2.out | apply below_alloc | apply pw_below_drewN | apply below_drew1))).mono ?_; rintro e w1 ⟨⟨o, rfl, hq⟩, hb1⟩; have HQ := Aside0.mk hq; have HB1 := Aside0.mk (Below.trans (show Below w.heap.size w _ from (by repeat (first | exact Below.refl _ _ | exact HB1.out | exact HB2.out | apply below_alloc | apply pw_below_drewN | apply below_drew1))) (hb1.mono (below_size (show Below w.heap.size w _ from (by repeat (first | exact Below.refl _ _ | exact HB1.out | exact HB2.out | apply below_alloc | apply pw_below_drewN | apply below_drew1)))))); clear hq hb1)
    | (go_at_call 182; refine (HM _ _ HQ.out HB1.out).mono ?_; rintro e w2 ⟨⟨v, rfl, hv⟩, hb2⟩; have HV := Aside0.mk hv; clear hv; have HB2 := Aside0.mk (HB1.out.trans (hb2.mono HB1.out.size)); have HQ2 := Aside0.mk (hQ _ _ _ HQ.out hb2); clear hb2))
  go_ret2
  exact ⟨⟨v, rfl, HV.out⟩, HB2.out⟩
set_option maxHeartbeats 1000000 in
set_option maxRecDepth 100000 in
theorem words_5 {Q R : World → Value → Prop} (hQ : Stays Q) (op : Int) (dst : ByteArray) (v2 v3 : Value) (st : Int) (w : World) (HG : Gives 44 90 (cval op dst v2 v3 st) w Q) (HM : Meth 187 Q w R) :
    Calls Tryz.prog 18 #[(cval op dst v2 v3 st)] w fun e w' => (∃ v, e = .returned (.tuple #[v, .int .i64 0]) ∧ R w' v) ∧ Below w.heap.size w w' := by
  have hm : ∀ (v : Value) (W : World), Sem.run Tryz.prog (method 342 90 v "smithy/cmd.words") W = .ok (187, v) W := fun _ _ => rfl
  go_enter Tryz.func18, Tryz.ntmps18
  go_wp2_with (first
    | (go_at_call 44; refine (HG _ (by repeat (first | exact Below.refl _ _ | exact HB1.out | exact HB2.out | apply below_alloc | apply pw_below_drewN | apply below_drew1))).mono ?_; rintro e w1 ⟨⟨o, rfl, hq⟩, hb1⟩; have HQ := Aside0.mk hq; have HB1 := Aside0.mk (Below.trans (show Below w.heap.size w _ from (by repeat (first | exact Below.refl _ _ | exact HB1.out | exact HB2.out | apply below_alloc | apply pw_below_drewN | apply below_drew1))) (hb1.mono (below_size (show Below w.heap.size w _ from (by repeat (first | exact Below.refl _ _ | exact HB1.out | exact HB2.out | apply below_alloc | apply pw_below_drewN | apply below_drew1)))))); clear hq hb1)
    | (go_at_call 187; refine (HM _ _ HQ.out HB1.out).mono ?_; rintro e w2 ⟨⟨v, rfl, hv⟩, hb2⟩; have HV := Aside0.mk hv; clear hv; have HB2 := Aside0.mk (HB1.out.trans (hb2.mono HB1.out.size)); have HQ2 := Aside0.mk (hQ _ _ _ HQ.out hb2); clear hb2))
  go_ret2
  exact ⟨⟨v, rfl, HV.out⟩, HB2.out⟩
set_option maxHeartbeats 1000000 in
set_option maxRecDepth 100000 in
theorem words_6 {Q R : World → Value → Prop} (hQ : Stays Q) (op : Int) (dst : ByteArray) (v2 v3 : Value) (st : Int) (w : World) (HG : Gives 44 92 (cval op dst v2 v3 st) w Q) (HM : Meth 192 Q w R) :
    Calls Tryz.prog 18 #[(cval op dst v2 v3 st)] w fun e w' => (∃ v, e = .returned (.tuple #[v, .int .i64 0]) ∧ R w' v) ∧ Below w.heap.size w w' := by
  have hm : ∀ (v : Value) (W : World), Sem.run Tryz.prog (method 342 92 v "smithy/cmd.words") W = .ok (192, v) W := fun _ _ => rfl
  go_enter Tryz.func18, Tryz.ntmps18
  go_wp2_with (first
    | (go_at_call 44; refine (HG _ (by repeat (first | exact Below.refl _ _ | exact HB1.out | exact HB2.out | apply below_alloc | apply pw_below_drewN | apply below_drew1))).mono ?_; rintro e w1 ⟨⟨o, rfl, hq⟩, hb1⟩; have HQ := Aside0.mk hq; have HB1 := Aside0.mk (Below.trans (show Below w.heap.size w _ from (by repeat (first | exact Below.refl _ _ | exact HB1.out | exact HB2.out | apply below_alloc | apply pw_below_drewN | apply below_drew1))) (hb1.mono (below_size (show Below w.heap.size w _ from (by repeat (first | exact Below.refl _ _ | exact HB1.out | exact HB2.out | apply below_alloc | apply pw_below_drewN | apply below_drew1)))))); clear hq hb1)
    | (go_at_call 192; refine (HM _ _ HQ.out HB1.out).mono ?_; rintro e w2 ⟨⟨v, rfl, hv⟩, hb2⟩; have HV := Aside0.mk hv; clear hv; have HB2 := Aside0.mk (HB1.out.trans (hb2.mono HB1.out.size)); have HQ2 := Aside0.mk (hQ _ _ _ HQ.out hb2); clear hb2))
  go_ret2
  exact ⟨⟨v, rfl, HV.out⟩, HB2.out⟩
set_option maxHeartbeats 1000000 in
set_option maxRecDepth 100000 in
theorem words_7 {Q R : World → Value → Prop} (hQ : Stays Q) (op : Int) (dst : ByteArray) (v2 v3 : Value) (st : Int) (w : World) (HG : Gives 44 94 (cval op dst v2 v3 st) w Q) (HM : Meth 197 Q w R) :
    Calls Tryz.prog 18 #[(cval op dst v2 v3 st)] w fun e w' => (∃ v, e = .returned (.tuple #[v, .int .i64 0]) ∧ R w' v) ∧ Below w.heap.size w w' := by
  have hm : ∀ (v : Value) (W : World), Sem.run Tryz.prog (method 342 94 v "smithy/cmd.words") W = .ok (197, v) W := fun _ _ => rfl
  go_enter Tryz.func18, Tryz.ntmps18
  go_wp2_with (first
    | (go_at_call 44; refine (HG _ (by repeat (first | exact Below.refl _ _ | exact HB1.out | exact HB2.out | apply below_alloc | apply pw_below_drewN | apply below_drew1))).mono ?_; rintro e w1 ⟨⟨o, rfl, hq⟩, hb1⟩; have HQ := Aside0.mk hq; have HB1 := Aside0.mk (Below.trans (show Below w.heap.size w _ from (by repeat (first | exact Below.refl _ _ | exact HB1.out | exact HB2.out | apply below_alloc | apply pw_below_drewN | apply below_drew1))) (hb1.mono (below_size (show Below w.heap.size w _ from (by repeat (first | exact Below.refl _ _ | exact HB1.out | exact HB2.out | apply below_alloc | apply pw_below_drewN | apply below_drew1)))))); clear hq hb1)
    | (go_at_call 197; refine (HM _ _ HQ.out HB1.out).mono ?_; rintro e w2 ⟨⟨v, rfl, hv⟩, hb2⟩; have HV := Aside0.mk hv; clear hv; have HB2 := Aside0.mk (HB1.out.trans (hb2.mono HB1.out.size)); have HQ2 := Aside0.mk (hQ _ _ _ HQ.out hb2); clear hb2))
  go_ret2
  exact ⟨⟨v, rfl, HV.out⟩, HB2.out⟩
set_option maxHeartbeats 1000000 in
set_option maxRecDepth 100000 in
theorem words_8 {Q R : World → Value → Prop} (hQ : Stays Q) (op : Int) (dst : ByteArray) (v2 v3 : Value) (st : Int) (w : World) (HG : Gives 44 96 (cval op dst v2 v3 st) w Q) (HM : Meth 202 Q w R) :
    Calls Tryz.prog 18 #[(cval op dst v2 v3 st)] w fun e w' => (∃ v, e = .returned (.tuple #[v, .int .i64 0]) ∧ R w' v) ∧ Below w.heap.size w w' := by
  have hm : ∀ (v : Value) (W : World), Sem.run Tryz.prog (method 342 96 v "smithy/cmd.words") W = .ok (202, v) W := fun _ _ => rfl
  go_enter Tryz.func18, Tryz.ntmps18
  go_wp2_with (first
    | (go_at_call 44; refine (HG _ (by repeat (first | exact Below.refl _ _ | exact HB1.out | exact HB2.out | apply below_alloc | apply pw_below_drewN | apply below_drew1))).mono ?_; rintro e w1 ⟨⟨o, rfl, hq⟩, hb1⟩; have HQ := Aside0.mk hq; have HB1 := Aside0.mk (Below.trans (show Below w.heap.size w _ from (by repeat (first | exact Below.refl _ _ | exact HB1.out | exact HB2.out | apply below_alloc | apply pw_below_drewN | apply below_drew1))) (hb1.mono (below_size (show Below w.heap.size w _ from (by repeat (first | exact Below.refl _ _ | exact HB1.out | exact HB2.out | apply below_alloc | apply pw_below_drewN | apply below_drew1)))))); clear hq hb1)
    | (go_at_call 202; refine (HM _ _ HQ.out HB1.out).mono ?_; rintro e w2 ⟨⟨v, rfl, hv⟩, hb2⟩; have HV := Aside0.mk hv; clear hv; have HB2 := Aside0.mk (HB1.out.trans (hb2.mono HB1.out.size)); have HQ2 := Aside0.mk (hQ _ _ _ HQ.out hb2); clear hb2))
  go_ret2
  exact ⟨⟨v, rfl, HV.out⟩, HB2.out⟩
end Go.Proofs.YtpiafpkpdbknfaaGreatDoor.Sup
