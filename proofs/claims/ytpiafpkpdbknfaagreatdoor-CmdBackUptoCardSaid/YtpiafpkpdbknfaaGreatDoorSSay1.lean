/- cmd.told and Writes, of a copy. Conditions: those in each statement. -/
import Derived.Test.YtpiafpkpdbknfaaGreatDoorSSayBase
namespace Go.Proofs.YtpiafpkpdbknfaaGreatDoor.Sup
open Go.RowKit Go.Proofs.YtpiafpkpdbknfaaGreatDoorW.PrintWords Go.Proofs.YtpiafpkpdbknfaaGreatDoorW.PrintLast Go.Proofs.YtpiafpkpdbknfaaGreatDoorW.PrintMore
attribute [local go_sem] max2_int min2_int max_two min_two max_three min_three max_four min_four
set_option linter.unusedVariables false
set_option linter.unusedSimpArgs false
set_option maxHeartbeats 1000000 in
set_option maxRecDepth 100000 in
theorem told_1 {Q : World → Value → Prop} (hQ : Stays Q) (op : Int) (dst : ByteArray) (v2 v3 : Value) (st : Int) (w : World) {er : Int} (HG : Gives 43 83 (cval op dst v2 v3 st) w Q) (HM : Meth 160 Q w (isE 0)) :
    Calls Tryz.prog 44 #[(cval op dst v2 v3 st)] w fun e w' => (∃ o, e = .returned (.tuple #[.iface 83 o, .int .i64 0]) ∧ Q w' o) ∧ Below w.heap.size w w' := by
  have hm : ∀ (v : Value) (W : World), Sem.run Tryz.prog (method 342 83 v "smithy/cmd.right") W = .ok (160, v) W := fun _ _ => rfl
  go_enter Tryz.func44, Tryz.ntmps44
  go_wp2_with (first
    | (go_at_call 43; refine (HG _ (by repeat (first | exact Below.refl _ _ | exact HB1.out | exact HB2.out | apply below_alloc | apply pw_below_drewN | apply below_drew1))).mono ?_; rintro e w1 ⟨⟨o, rfl, hq⟩, hb1⟩; have HQ := Aside0.mk hq; have HB1 := Aside0.mk (Below.trans (show Below w.heap.size w _ from (by repeat (first | exact Below.refl _ _ | exact HB1.out | exact HB2.out | apply below_alloc | apply pw_below_drewN | apply below_drew1))) (hb1.mono (below_size (show Below w.heap.size w _ from (by repeat (first | exact Below.refl _ _ | exact HB1.out | exact HB2.out | apply below_alloc | apply pw_below_drewN | apply below_drew1)))))); clear hq hb1)
    | (go_at_call 160; refine (HM _ _ HQ.out HB1.out).mono ?_; rintro e w2 ⟨⟨v, rfl, hv⟩, hb2⟩; obtain rfl : v = _ := hv; have HB2 := Aside0.mk (HB1.out.trans (hb2.mono HB1.out.size)); have HQ2 := Aside0.mk (hQ _ _ _ HQ.out hb2); clear hb2))
  go_ret2
  exact ⟨⟨o, rfl, HQ2.out⟩, HB2.out⟩
set_option maxHeartbeats 1000000 in
set_option maxRecDepth 100000 in
theorem writes_1 {Q : World → Value → Prop} (hQ : Stays Q) {a b : Value} (op : Int) (dst : ByteArray) (v2 v3 : Value) (st : Int) (w : World) (HG : Gives 44 83 (cval op dst v2 v3 st) w Q) (HM : Meth2 163 Q w a b) :
    Calls Tryz.prog 17 #[(cval op dst v2 v3 st)] w fun e w' => e = .returned (.tuple #[a, b, .int .i64 0]) ∧ Below w.heap.size w w' := by
  have hm : ∀ (v : Value) (W : World), Sem.run Tryz.prog (method 342 83 v "smithy/cmd.writes") W = .ok (163, v) W := fun _ _ => rfl
  go_enter Tryz.func17, Tryz.ntmps17
  go_wp2_with (first
    | (go_at_call 44; refine (HG _ (by repeat (first | exact Below.refl _ _ | exact HB1.out | exact HB2.out | apply below_alloc | apply pw_below_drewN | apply below_drew1))).mono ?_; rintro e w1 ⟨⟨o, rfl, hq⟩, hb1⟩; have HQ := Aside0.mk hq; have HB1 := Aside0.mk (Below.trans (show Below w.heap.size w _ from (by repeat (first | exact Below.refl _ _ | exact HB1.out | exact HB2.out | apply below_alloc | apply pw_below_drewN | apply below_drew1))) (hb1.mono (below_size (show Below w.heap.size w _ from (by repeat (first | exact Below.refl _ _ | exact HB1.out | exact HB2.out | apply below_alloc | apply pw_below_drewN | apply below_drew1)))))); clear hq hb1)
    | (go_at_call 163; refine (HM _ _ HQ.out HB1.out).mono ?_; rintro e w2 ⟨rfl, hb2⟩; have HB2 := Aside0.mk (HB1.out.trans (hb2.mono HB1.out.size)); have HQ2 := Aside0.mk (hQ _ _ _ HQ.out hb2); clear hb2))
  go_ret3
  exact ⟨rfl, HB2.out⟩
end Go.Proofs.YtpiafpkpdbknfaaGreatDoor.Sup
