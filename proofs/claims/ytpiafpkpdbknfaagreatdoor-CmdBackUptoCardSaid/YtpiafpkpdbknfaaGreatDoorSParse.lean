/- cmd.Parse: the lemmas that all its ways use. Conditions: those in each statement. -/
import Derived.Test.YtpiafpkpdbknfaaGreatDoorProg
import Derived.Below
import Derived.Deep.Draws
import Derived.OwnWalk
import Derived.Tactics
import Derived.WalkKit
import Derived.KernelRfl
import Derived.RowKit3
import Derived.Deep.LoopGhost
import Derived.Deep.QuietTactic
import Derived.BigQuiet
import Derived.WideLaws
import Derived.Deep.DeepCutAuto
import Derived.Deep.CutBlock
import Derived.Deep.RegionHeld3
import Derived.Deep.DrawnRows
import Derived.Deep.MidRow
import Derived.RowKit
import Derived.Test.YtpiafpkpdbknfaaGreatDoorWWords
namespace Go.Proofs.YtpiafpkpdbknfaaGreatDoor.Sup
open Go.RowKit Go.Proofs.YtpiafpkpdbknfaaGreatDoorW.PrintWords Go.Proofs.YtpiafpkpdbknfaaGreatDoorW.PrintLast Go.Proofs.YtpiafpkpdbknfaaGreatDoorW.PrintMore
attribute [local go_sem] max2_int min2_int max_two min_two max_three min_three max_four min_four
set_option linter.unusedVariables false
set_option linter.unusedSimpArgs false
theorem infoS_ : (Tryz.prog.info? 9).map (fun i => (i.zero, i.size, i.bytes)) = some (some (.string ⟨#[]⟩), 1, 16) := by kernel_rfl
def headsL : List ByteArray := [⟨#[99, 111, 112, 121]⟩, ⟨#[99, 111, 110, 99, 97, 116]⟩, ⟨#[101, 99, 104, 111, 45, 116, 111]⟩, ⟨#[116, 111, 117, 99, 104]⟩, ⟨#[114, 101, 109, 111, 118, 101]⟩, ⟨#[116, 101, 115, 116, 45, 101, 120, 105, 115, 116, 115]⟩, ⟨#[102, 97, 105, 108]⟩, ⟨#[115, 97, 121]⟩]
/-- The operations' words are told. -/
def HeadsOk : Prop := ∀ w : World, Calls Tryz.prog 31 #[] w fun e w' => ∃ (g cap : Nat), e = .returned (.slice (some ⟨g, 0, none⟩) 9 cap) ∧ 9 ≤ cap ∧ Kd.C Kd.string w' (some ⟨g, 1, none⟩) headsL.length headsL ∧ Below w.heap.size w w' ∧ ((cap = 1) = False)
/-- A word's place among the operations' words. -/
def IndexOk (x : ByteArray) (i : Int) : Prop := ∀ (g cap : Nat) (w : World), 9 ≤ cap → Kd.C Kd.string w (some ⟨g, 1, none⟩) headsL.length headsL →
    Calls Tryz.prog 30 #[.slice (some ⟨g, 1, none⟩) 8 (cap - 1), .string x] w fun e w' => e = .returned (.int .i64 i) ∧ Drawn0 w w'
/-- The words are copied. -/
def CloneOk : Prop := ∀ (A : Option Addr) (c m : Nat) (l : List ByteArray) (w : World), l.length = m → m ≤ c → m ≤ 8796093022200 → Kd.C Kd.string w A l.length l →
    Calls Tryz.prog 32 #[.slice A m c] w fun e w' => ∃ A2 c2, e = .returned (.slice A2 m c2) ∧ Aside0 (Kd.R Kd.string 9 w' w.heap.size (fun _ => True) (.slice A2 m c2) l) ∧ Aside0 (Below w.heap.size w w')
/-- May so many operands be? -/
def CountOk (op n : Int) (b : Bool) : Prop := ∀ w : World, Calls Tryz.prog 33 #[.int .i64 op, .int .i64 n] w fun e w' => e = .returned (.bool b) ∧ Drawn0 w w'
theorem count_at {op : Int} {b : Bool} {l : List ByteArray} {m : Nat} (h : CountOk op (l.length : Int) b) (hm : l.length = m) (w : World) : Calls Tryz.prog 33 #[.int .i64 op, .int .i64 (m : Int)] w fun e w' => e = .returned (.bool b) ∧ Drawn0 w w' := by
  rw [hm] at h; exact h w
theorem count_lit {op n : Int} {b : Bool} (h : CountOk op n b) (w : World) : Calls Tryz.prog 33 #[.int .i64 op, .int .i64 n] w fun e w' => e = .returned (.bool b) ∧ Drawn0 w w' := h w
theorem index_at {x : ByteArray} {i : Int} (h : IndexOk x i) (g cap : Nat) (w : World) (hcap : 9 ≤ cap) (hc : Kd.C Kd.string w (some ⟨g, 1, none⟩) headsL.length headsL) : Calls Tryz.prog 30 #[.slice (some ⟨g, 1, none⟩) 8 (cap - 1), .string x] w fun e w' => e = .returned (.int .i64 i) ∧ Drawn0 w w' := h g cap w hcap hc
/-- Are all names? -/
def FilesOk (l : List ByteArray) (er : Int) : Prop := ∀ (A : Option Addr) (c : Nat) (w : World), l.length ≤ c → Kd.C Kd.string w A l.length l → Calls Tryz.prog 36 #[.slice A l.length c] w fun e w' => e = .returned (.int .i64 er) ∧ Drawn0 w w'
theorem files_at {l : List ByteArray} {er : Int} {A : Option Addr} {c m : Nat} {w : World} (h : FilesOk l er) (hm : l.length = m) (hc : m ≤ c) (hr : Kd.C Kd.string w A l.length l) : Calls Tryz.prog 36 #[.slice A m c] w fun e w' => e = .returned (.int .i64 er) ∧ Drawn0 w w' := by
  subst hm
  exact h A c w hc hr
theorem files_nil {er : Int} (h : FilesOk [] er) (w : World) : Calls Tryz.prog 36 #[.slice none 0 0] w fun e w' => e = .returned (.int .i64 er) ∧ Drawn0 w w' :=
  h none 0 w (Nat.le_refl _) ⟨rfl, by decide, fun h => absurd h (by decide)⟩
theorem words_cut {w : World} {A0 : Option Addr} {x : ByteArray} {l : List ByteArray} {c0 : Nat} (h : Kd.C Kd.string w A0 (x :: l).length (x :: l)) (hc : (x :: l).length ≤ c0) :
    ∃ ad A1, A0 = some ad ∧ w.cell? ad = some (.string x) ∧ Kd.C Kd.string w A1 l.length l ∧ (∀ W : World, Sem.run Tryz.prog (Instr.slice 22 (.slice (some ad) (l.length + 1) c0) (some (.int .i64 1)) none none) W = .ok (.slice A1 l.length (c0 - 1)) W) := by
  have hd := Kd.C_drop (m := 1) h (by simp) hc
  obtain ⟨i0, hi0, _, hsz, _⟩ := info_parts infoS_
  have hcut := cut_from (P := Tryz.prog) 22 9 .i64 Tryz.underlying22 hi0 1 hsz A0 (l.length + 1) c0 1 (by decide) (by omega)
  obtain ⟨_, _, hk⟩ := h
  obtain ⟨ad, rfl, hrow⟩ := hk (by simp)
  refine ⟨ad, _, rfl, ?_, hd, hcut⟩
  obtain ⟨c, hcl, hcs, hcc⟩ := hrow 0 x rfl
  have hcs' : c = [Value.string x] := hcs
  subst hcs'
  have := hcc 0 _ rfl
  simpa [Addr.add] using this
theorem alloc_top (w : World) (o : Obj) : (w.alloc o).heap[w.heap.size]? = some o := by
  show (w.heap.push o)[w.heap.size]? = some o
  exact Array.getElem?_push_size
theorem box_kept {w w1 : World} {o : Obj} (hb : Below (w.alloc o).drew.heap.size (w.alloc o).drew w1) : w1.heap[w.heap.size]? = some o := by
  have hs : (w.alloc o).drew.heap.size = w.heap.size + 1 := by show (w.heap.push o).size = _; rw [Array.size_push]
  rw [hb.block w.heap.size (by omega)]
  exact alloc_top _ _
theorem cell_kept {w w1 : World} {o : Obj} {ad : Addr} {v : Value} (hb : Below (w.alloc o).drew.heap.size (w.alloc o).drew w1) (h : w.cell? ad = some v) : w1.cell? ad = some v := by
  have hlt := World.block_lt_of_cell? _ _ h
  have hs : (w.alloc o).drew.heap.size = w.heap.size + 1 := by show (w.heap.push o).size = _; rw [Array.size_push]
  rw [hb.cell (by omega), World.cell?_of_block (w := w) (w' := (w.alloc o).drew) (Below.heap_alloc w o _ hlt), h]
theorem box_step {w1 w3 : World} {k g : Nat} {o : Obj} (hb : Below (w1.drewN k).heap.size (w1.drewN k) w3) (h : w1.heap[g]? = some o) : w3.heap[g]? = some o := by
  have hlt : g < w1.heap.size := (Array.getElem?_eq_some_iff.1 h).1
  exact (hb.block g hlt).trans h
theorem box_cell {w : World} {g j : Nat} {cs : Array Value} {t : TypeId} (h : w.heap[g]? = some (.cells cs t (0, 0))) : w.cell? ⟨g, j, none⟩ = cs[j]? ∧ w.frozen? ⟨g, j, none⟩ = false := by
  constructor
  · simp [World.cell?, h]
  · simp [World.frozen?, h]
theorem box_set {w : World} {g j : Nat} {cs : Array Value} {t : TypeId} {fr : Nat × Nat} {v : Value} (h : w.heap[g]? = some (.cells cs t fr)) : (w.setCell ⟨g, j, none⟩ v).heap[g]? = some (.cells (cs.setIfInBounds j v) t fr) := by
  have hlt : g < w.heap.size := (Array.getElem?_eq_some_iff.1 h).1
  simp only [World.setCell]
  rw [Array.getElem?_modify]
  simp [h]
theorem below_via {w w1 w3 : World} {k : Nat} (h : Below w.heap.size w w1) (hb : Below (w1.drewN k).heap.size (w1.drewN k) w3) : Below w.heap.size w w3 := by
  have h1 : Below w.heap.size w (w1.drewN k) := pw_below_drewN h k
  exact h1.trans (hb.mono h1.size)
/-- What Parse tells. -/
def parseP (e w : World) (ev : Ending) (op : Int) (dst : ByteArray) (src words : List ByteArray) (st er : Int) : Prop :=
  (∃ v2_ v3_ : Value, ev = .returned (.tuple #[.agg #[.int .i64 op, .string dst, v2_, v3_, .int .i64 st], .int .i64 er]) ∧ Kd.V Kd.string 9 w e.heap.size (fun k_ => e.heap.size ≤ k_) v2_ src ∧ Kd.V Kd.string 9 w e.heap.size (fun k_ => e.heap.size ≤ k_) v3_ words) ∧ Below e.heap.size e w
theorem alloc_top2 (w : World) (k : Nat) (o : Obj) : ((w.drewN k).alloc o).heap[w.heap.size]? = some o := alloc_top (w.drewN k) o
theorem v_keep {w3 wf : World} {base b' b0 : Nat} {v : Value} {l : List ByteArray} (h : Kd.R Kd.string 9 w3 base (fun _ => True) v l) (hb : b0 ≤ base) (hm : ∀ k, base ≤ k → k < w3.heap.size → wf.heap[k]? = w3.heap[k]?) : Kd.V Kd.string 9 wf b' (fun k_ => b0 ≤ k_) v l := by
  have h2 : Kd.R Kd.string 9 w3 base (fun k => base ≤ k) v l := Kd.R_reok rfl h (Kd.R_base h)
  obtain ⟨A, c, hv, hl, hF⟩ := Kd.R_V (base' := b') h2
  exact ⟨A, c, hv, hl, Foot.mono (Foot.step hF (fun k hk hlt => hm k hk hlt)) (fun _ hk => Nat.le_trans hb hk)⟩
theorem c_keep {w3 wf : World} {base : Nat} {A : Option Addr} {n c : Nat} {l : List ByteArray} (h : Kd.R Kd.string 9 w3 base (fun _ => True) (.slice A n c) l) (hm : ∀ k, base ≤ k → k < w3.heap.size → wf.heap[k]? = w3.heap[k]?) : Kd.C Kd.string wf A l.length l := by
  obtain ⟨A', c', hv, hl, hF⟩ := v_keep (b' := 0) (b0 := 0) h (Nat.zero_le _) hm
  injection hv with e1 _ _
  subst e1
  exact Foot.now hF
theorem c_first {w : World} {A : Option Addr} {d : ByteArray} (h : Kd.C Kd.string w A [d].length [d]) : ∃ ad, A = some ad ∧ w.cell? ad = some (.string d) := by
  obtain ⟨_, _, hk⟩ := h
  obtain ⟨ad, rfl, hrow⟩ := hk (by simp)
  refine ⟨ad, rfl, ?_⟩
  obtain ⟨c, hcl, hcs, hcc⟩ := hrow 0 d rfl
  have hcs' : c = [Value.string d] := hcs
  subst hcs'
  have := hcc 0 _ rfl
  simpa [Addr.add] using this
theorem cell_far' {W : World} {g j : Nat} {v u : Value} {ad : Addr} (hne : ad.block ≠ g) (h : W.cell? ad = some u) : (W.setCell ⟨g, j, none⟩ v).cell? ad = some u := by
  rw [World.cell?_of_block (w := W) (w' := W.setCell ⟨g, j, none⟩ v) (Below.heap_setCell W ⟨g, j, none⟩ v ad.block hne)]
  exact h
theorem cell_far {W : World} {g j : Nat} {v u : Value} {ad : Addr} (hne : ad.block ≠ g) (h : W.cell? ad = some u) : (W.setCell ⟨g, j, none⟩ v).drew.cell? ad = some u := cell_far' hne h
theorem far2 {W : World} {g j1 j2 k : Nat} {v1 v2 : Value} (hne : k ≠ g) : ((W.setCell ⟨g, j1, none⟩ v1).setCell ⟨g, j2, none⟩ v2).drew.heap[k]? = W.heap[k]? := (Below.heap_setCell (W.setCell ⟨g, j1, none⟩ v1) ⟨g, j2, none⟩ v2 k hne).trans (Below.heap_setCell W ⟨g, j1, none⟩ v1 k hne)
theorem c_keep1 {w3 wf : World} {base : Nat} {A : Option Addr} {n c : Nat} {d : ByteArray} {ws : List ByteArray} (h : Kd.R Kd.string 9 w3 base (fun _ => True) (.slice A n c) (d :: ws)) (hm : ∀ k, base ≤ k → k < w3.heap.size → wf.heap[k]? = w3.heap[k]?) : Kd.C Kd.string wf A [d].length [d] := Kd.C_take (m := 1) (c_keep h hm) (by simp)
theorem c_first' {w : World} {A : Option Addr} {d : ByteArray} {ws : List ByteArray} (h : Kd.C Kd.string w A (d :: ws).length (d :: ws)) : ∃ ad, A = some ad ∧ w.cell? ad = some (.string d) := by
  obtain ⟨ad, _, e, h1, _, _⟩ := words_cut h (Nat.le_refl _)
  exact ⟨ad, e, h1⟩
theorem w4_kept (w3 : World) (nd2 : Nat) {o : Obj} {u v x y z : Value} : ∀ k, k < w3.heap.size → (((((((w3.drewN nd2).alloc o).setCell ⟨w3.heap.size, 0, none⟩ u).setCell ⟨w3.heap.size, 1, none⟩ v).setCell ⟨w3.heap.size, 2, none⟩ x).setCell ⟨w3.heap.size, 3, none⟩ y).setCell ⟨w3.heap.size, 4, none⟩ z).heap[k]? = w3.heap[k]? := by
  intro k hk
  rw [Below.heap_setCell _ _ _ _ (by show k ≠ w3.heap.size; omega), Below.heap_setCell _ _ _ _ (by show k ≠ w3.heap.size; omega), Below.heap_setCell _ _ _ _ (by show k ≠ w3.heap.size; omega), Below.heap_setCell _ _ _ _ (by show k ≠ w3.heap.size; omega), Below.heap_setCell _ _ _ _ (by show k ≠ w3.heap.size; omega)]
  exact Below.heap_alloc (w3.drewN nd2) _ k hk
theorem words_cut' {w : World} {A0 : Option Addr} {x : ByteArray} {l : List ByteArray} {c0 : Nat} (h : Kd.C Kd.string w A0 (x :: l).length (x :: l)) (hc : (x :: l).length ≤ c0) :
    ∃ ad A1, A0 = some ad ∧ w.cell? ad = some (.string x) ∧ (∀ W : World, Kd.C Kd.string W A0 (x :: l).length (x :: l) → Kd.C Kd.string W A1 l.length l) ∧ (∀ W : World, Sem.run Tryz.prog (Instr.slice 22 (.slice (some ad) (l.length + 1) c0) (some (.int .i64 1)) none none) W = .ok (.slice A1 l.length (c0 - 1)) W) := by
  obtain ⟨i0, hi0, _, hsz, _⟩ := info_parts infoS_
  have hcut := cut_from (P := Tryz.prog) 22 9 .i64 Tryz.underlying22 hi0 1 hsz A0 (l.length + 1) c0 1 (by decide) (by omega)
  have hd : ∀ W : World, Kd.C Kd.string W A0 (x :: l).length (x :: l) → Kd.C Kd.string W (if c0 = 1 then A0 else A0.map (·.add (1 * Kd.string.sz))) l.length l := fun W hW => Kd.C_drop (m := 1) hW (by simp) hc
  obtain ⟨ad, _, e, h1, _, _⟩ := words_cut h hc
  subst e
  exact ⟨ad, _, rfl, h1, hd, hcut⟩
theorem rest_keep {w3 wf : World} {base b' b0 : Nat} {A A3 : Option Addr} {n c p : Nat} {d : ByteArray} {ws : List ByteArray} (h : Kd.R Kd.string 9 w3 base (fun _ => True) (.slice A n c) (d :: ws))
    (hcc : ∀ W : World, Kd.C Kd.string W A (d :: ws).length (d :: ws) → Kd.C Kd.string W A3 ws.length ws) (hp : ws.length = p) (hb : b0 ≤ base) (hm : ∀ k, base ≤ k → k < w3.heap.size → wf.heap[k]? = w3.heap[k]?) : Kd.V Kd.string 9 wf b' (fun k_ => b0 ≤ k_) (.slice A3 p (c - 1)) ws := by
  obtain ⟨A', c', hv, hl, hF⟩ := v_keep (b' := b') h hb hm
  injection hv with e1 _ e3
  subst e1 e3 hp
  rw [List.length_cons] at hl
  exact ⟨A3, c - 1, rfl, by omega, Foot.imp hF (fun W hW => hcc W hW)⟩
theorem first_keep {w3 wf : World} {base b' b0 : Nat} {A : Option Addr} {n c : Nat} {a d : ByteArray} (h : Kd.R Kd.string 9 w3 base (fun _ => True) (.slice A n c) [a, d]) (hb : b0 ≤ base)
    (hm : ∀ k, base ≤ k → k < w3.heap.size → wf.heap[k]? = w3.heap[k]?) : Kd.V Kd.string 9 wf b' (fun k_ => b0 ≤ k_) (.slice A 1 1) [a] := by
  obtain ⟨A', c', hv, hl, hF⟩ := v_keep (b' := b') h hb hm
  injection hv with e1 _ e3
  subst e1 e3
  exact ⟨A, 1, rfl, Nat.le_refl _, Foot.imp hF (fun W hW => Kd.C_take (m := 1) hW (by simp))⟩
theorem c_two {w : World} {A : Option Addr} {a d : ByteArray} (h : Kd.C Kd.string w A [a, d].length [a, d]) : ∃ ad, A = some ad ∧ w.cell? ad = some (.string a) ∧ w.cell? ⟨ad.block, ad.off + 1, none⟩ = some (.string d) := by
  obtain ⟨_, _, hk⟩ := h
  obtain ⟨ad, rfl, hrow⟩ := hk (by simp)
  refine ⟨ad, rfl, ?_, ?_⟩
  · obtain ⟨c, hcl, hcs, hcc⟩ := hrow 0 a rfl
    have hcs' : c = [Value.string a] := hcs
    subst hcs'
    have := hcc 0 _ rfl
    simpa [Addr.add] using this
  · obtain ⟨c, hcl, hcs, hcc⟩ := hrow 1 d rfl
    have hcs' : c = [Value.string d] := hcs
    subst hcs'
    have := hcc 0 _ rfl
    rw [show Kd.string.sz = 1 from rfl] at this
    simp only [Addr.add] at this
    rw [if_neg (by omega)] at this
    exact this
theorem cut_cap (A : Option Addr) (n c : Nat) (hc : 1 ≤ c) (W : World) : Sem.run Tryz.prog (Instr.slice 22 (.slice A n c) none (some (.int .i64 1)) (some (.int .i64 1))) W = .ok (.slice A 1 1) W := by
  obtain ⟨i0, hi0, _, _, _⟩ := info_parts infoS_
  have hel : (Tryz.prog).elem 22 = 9 := by simp [Program.elem, Tryz.underlying22]
  have hu : (Tryz.prog).underlying 22 = some (.slice ((Tryz.prog).elem 22)) := by rw [hel]; exact Tryz.underlying22
  have ha : (A.map fun x => x.add 0) = A := by cases A <;> simp [Addr.add]
  rw [run_slice_hm W 22 A n c hu .i64 .i64 1 1 (by decide) (by decide) (by omega), hel]
  simp [sizeOf, typeInfo, hi0, sliced, Result.andThen, ha]
theorem box5 {w : World} {g : Nat} {a b c d e : Value} {t : TypeId} (h : w.heap[g]? = some (.cells #[a, b, c, d, e] t (0, 0))) :
    (w.cell? ⟨g, 0, none⟩ = some a ∧ w.frozen? ⟨g, 0, none⟩ = false) ∧ (w.cell? ⟨g, 1, none⟩ = some b ∧ w.frozen? ⟨g, 1, none⟩ = false) ∧ (w.cell? ⟨g, 2, none⟩ = some c ∧ w.frozen? ⟨g, 2, none⟩ = false) ∧ (w.cell? ⟨g, 3, none⟩ = some d ∧ w.frozen? ⟨g, 3, none⟩ = false) ∧ (w.cell? ⟨g, 4, none⟩ = some e ∧ w.frozen? ⟨g, 4, none⟩ = false) :=
  ⟨box_cell h, box_cell h, box_cell h, box_cell h, box_cell h⟩
/-- Five stores into a box: what lies in other blocks stays. -/
theorem set5 {W : World} {g k : Nat} {a b c d e : Value} (h : k ≠ g) : (((((W.setCell ⟨g, 0, none⟩ a).setCell ⟨g, 1, none⟩ b).setCell ⟨g, 2, none⟩ c).setCell ⟨g, 3, none⟩ d).setCell ⟨g, 4, none⟩ e).heap[k]? = W.heap[k]? := by
  rw [Below.heap_setCell _ _ _ _ h, Below.heap_setCell _ _ _ _ h, Below.heap_setCell _ _ _ _ h, Below.heap_setCell _ _ _ _ h, Below.heap_setCell _ _ _ _ h]
theorem below5 {w W : World} {g : Nat} {a b c d e : Value} (h : Below w.heap.size w W) (hg : w.heap.size ≤ g) : Below w.heap.size w (((((W.setCell ⟨g, 0, none⟩ a).setCell ⟨g, 1, none⟩ b).setCell ⟨g, 2, none⟩ c).setCell ⟨g, 3, none⟩ d).setCell ⟨g, 4, none⟩ e) :=
  ((((h.setCell hg _).setCell hg _).setCell hg _).setCell hg _).setCell hg _
end Go.Proofs.YtpiafpkpdbknfaaGreatDoor.Sup
