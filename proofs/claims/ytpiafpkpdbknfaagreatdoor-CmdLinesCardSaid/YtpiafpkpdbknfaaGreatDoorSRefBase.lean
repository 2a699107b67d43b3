/- smithyref16.Parse: the lemmas that all its ways use; too many words; none. Conditions: those in each statement. -/
import Derived.Test.YtpiafpkpdbknfaaGreatDoorSParse
namespace Go.Proofs.YtpiafpkpdbknfaaGreatDoor.Sup
open Go.RowKit Go.Proofs.YtpiafpkpdbknfaaGreatDoorW.PrintWords Go.Proofs.YtpiafpkpdbknfaaGreatDoorW.PrintLast Go.Proofs.YtpiafpkpdbknfaaGreatDoorW.PrintMore
attribute [local go_sem] max2_int min2_int max_two min_two max_three min_three max_four min_four
set_option linter.unusedVariables false
set_option linter.unusedSimpArgs false
def OpOk (x : ByteArray) (o : Int) : Prop := ∀ w : World, Calls Tryz.prog 37 #[.string x] w fun e w' => e = .returned (.int .i64 o) ∧ Drawn0 w w'
theorem op_at {x : ByteArray} {o : Int} (h : OpOk x o) (w : World) : Calls Tryz.prog 37 #[.string x] w fun e w' => e = .returned (.int .i64 o) ∧ Drawn0 w w' := h w
def ManyOk (op n : Int) (b : Bool) : Prop := ∀ w : World, Calls Tryz.prog 38 #[.int .i64 op, .int .i64 n] w fun e w' => e = .returned (.bool b) ∧ Drawn0 w w'
theorem many_at {op : Int} {b : Bool} {l : List ByteArray} {m : Nat} (h : ManyOk op (l.length : Int) b) (hm : l.length = m) (w : World) : Calls Tryz.prog 38 #[.int .i64 op, .int .i64 (m : Int)] w fun e w' => e = .returned (.bool b) ∧ Drawn0 w w' := by
  rw [hm] at h; exact h w
theorem many_lit {op n : Int} {b : Bool} (h : ManyOk op n b) (w : World) : Calls Tryz.prog 38 #[.int .i64 op, .int .i64 n] w fun e w' => e = .returned (.bool b) ∧ Drawn0 w w' := h w
def StatOk (x : ByteArray) (o : Int) : Prop := ∀ w : World, Calls Tryz.prog 39 #[.string x] w fun e w' => e = .returned (.int .i64 o) ∧ Drawn0 w w'
theorem stat_at {x : ByteArray} {o : Int} (h : StatOk x o) (w : World) : Calls Tryz.prog 39 #[.string x] w fun e w' => e = .returned (.int .i64 o) ∧ Drawn0 w w' := h w
def RFilesOk (op : Int) (dst : ByteArray) (src words : List ByteArray) (st : Int) (b : Bool) : Prop := ∀ (A2 : Option Addr) (c2 : Nat) (A3 : Option Addr) (c3 : Nat) (w : World), Kd.C Kd.string w A2 src.length src → src.length ≤ c2 → Kd.C Kd.string w A3 words.length words → words.length ≤ c3 →
    Calls Tryz.prog 40 #[.agg #[.int .i64 op, .string dst, .slice A2 src.length c2, .slice A3 words.length c3, .int .i64 st]] w fun e w' => e = .returned (.bool b) ∧ Below w.heap.size w w'
theorem rfiles_at {op : Int} {dst : ByteArray} {src words : List ByteArray} {st : Int} {b : Bool} (h : RFilesOk op dst src words st b) {v2 v3 : Value} {w : World} {b' : Nat} {ok2 ok3 : Nat → Prop} (h2 : Kd.V Kd.string 9 w b' ok2 v2 src) (h3 : Kd.V Kd.string 9 w b' ok3 v3 words) :
    Calls Tryz.prog 40 #[.agg #[.int .i64 op, .string dst, v2, v3, .int .i64 st]] w fun e w' => e = .returned (.bool b) ∧ Below w.heap.size w w' := by
  obtain ⟨A2, c2, rfl, hl2, hF2⟩ := h2
  obtain ⟨A3, c3, rfl, hl3, hF3⟩ := h3
  exact h A2 c2 A3 c3 w (Foot.now hF2) hl2 (Foot.now hF3) hl3
theorem r_empty {W : World} {base : Nat} (hb : base ≤ W.heap.size) : Kd.R Kd.string 9 (W.alloc (.cells #[] 9)) base (fun _ => True) (.slice (some ⟨W.heap.size, 0, none⟩) 0 0) [] :=
  Kd.R_of_own (enc := Value.string) (xs := []) ⟨rfl, .inr ⟨W.heap.size, 0, #[], rfl, hb, alloc_top W _, Nat.le_refl _, by decide, rfl, rfl⟩⟩ (fun _ _ => trivial)
theorem vv_keep {w3 wf : World} {b b' b0 b1 : Nat} {v : Value} {l : List ByteArray} (h : Kd.V Kd.string 9 w3 b (fun k_ => b0 ≤ k_) v l) (hm : ∀ k, b0 ≤ k → k < w3.heap.size → wf.heap[k]? = w3.heap[k]?) (hb : b1 ≤ b0) : Kd.V Kd.string 9 wf b' (fun k_ => b1 ≤ k_) v l := by
  obtain ⟨A, c, hv, hl, hF⟩ := h
  exact ⟨A, c, hv, hl, Foot.mono (Foot.step hF (fun k hk hlt => hm k hk hlt)) (fun _ hk => Nat.le_trans hb hk)⟩
theorem first_keep' {w3 wf : World} {base b' b0 : Nat} {A : Option Addr} {n c : Nat} {a d : ByteArray} (h : Kd.R Kd.string 9 w3 base (fun _ => True) (.slice A n c) [a, d]) (hb : b0 ≤ base)
    (hm : ∀ k, base ≤ k → k < w3.heap.size → wf.heap[k]? = w3.heap[k]?) : Kd.V Kd.string 9 wf b' (fun k_ => b0 ≤ k_) (.slice A 1 c) [a] := by
  obtain ⟨A', c', hv, hl, hF⟩ := v_keep (b' := b') h hb hm
  injection hv with e1 _ e3
  subst e1 e3
  have hl2 : 2 ≤ c := hl
  exact ⟨A, c, rfl, by show 1 ≤ c; omega, Foot.imp hF (fun W hW => Kd.C_take (m := 1) hW (by simp))⟩
set_option maxHeartbeats 1000000 in
set_option maxRecDepth 100000 in
theorem ref_long (A0 : Option Addr) (n c0 : Nat) (w : World) (hl : 514 < n) (hn : n ≤ 9223372036854775807) :
    Calls Tryz.prog 10 #[.slice A0 n c0] w fun ev w' => parseP w w' ev 0 ByteArray.empty [] [] 0 2 := by
  have b1 : decide ((n : Int) > 514) = true := decide_eq_true (by omega)
  go_enter Tryz.func10, Tryz.ntmps10
  go_wp2
  refine bodyPost_ret (results_ct rfl _ _ w.heap.size 24 _ (0, 0) _ rfl (alloc_top _ _) Tryz.underlying24 rfl (by kernel_rfl)) rfl ?_
  refine ⟨⟨_, _, by first | rfl | (simp; done), Kd.V_nil _ _ _ _ _, Kd.V_nil _ _ _ _ _⟩, ?_⟩
  repeat (first | exact Below.refl _ _ | apply below_alloc | apply pw_below_drewN | apply below_drew1 | refine below_set ?_ (Nat.le_refl _))
set_option maxHeartbeats 1000000 in
set_option maxRecDepth 100000 in
theorem ref_none (A0 : Option Addr) (c0 : Nat) (w : World) :
    Calls Tryz.prog 10 #[.slice A0 0 c0] w fun ev w' => parseP w w' ev 0 ByteArray.empty [] [] 0 9 := by
  go_enter Tryz.func10, Tryz.ntmps10
  go_wp2
  refine bodyPost_ret (results_ct rfl _ _ w.heap.size 24 _ (0, 0) _ rfl (alloc_top _ _) Tryz.underlying24 rfl (by kernel_rfl)) rfl ?_
  refine ⟨⟨_, _, by first | rfl | (simp; done), Kd.V_nil _ _ _ _ _, Kd.V_nil _ _ _ _ _⟩, ?_⟩
  repeat (first | exact Below.refl _ _ | apply below_alloc | apply pw_below_drewN | apply below_drew1 | refine below_set ?_ (Nat.le_refl _))
end Go.Proofs.YtpiafpkpdbknfaaGreatDoor.Sup
