/- Written by programs of this session: laws and contracts that the law's proof stands on, merged into one text. Conditions: none beyond those in each statement. -/
import Derived.Lib.LaidTab
import Derived.Lib.ItoaMem
import Derived.Orders
import Derived.Below
import Derived.Tactics
import Derived.KernelRfl
import Derived.Laws.Sem
import Derived.Deep.LoopGhost
import Derived.MapKept
import Derived.Laws.StructEq
import Derived.WideLaws
import Derived.Laws.Append
import Derived.Laws.CopyRow
section
/- The package variables that calls of Go's library read, and what lies in them. Conditions: none. -/
namespace Go.Ev
open Go
def IsErr (vs : List Value) : Prop := ∃ t p, vs = [.iface t p]
def globP : List (Nat × (List Value → Prop)) := [(3, fun vs => vs = Lib.pow10Tab.map fun z => Value.int .u64 z), (1, IsErr), (2, IsErr)]
end Go.Ev
end
section
/- Written by this session: what values of Go are as trees, and how memory bears them. Conditions: none beyond those in each statement. -/
namespace Go.Ev
open Go

inductive AV where
  | top
  | v (x : Value)
  | sl (k : Nat) (l : List AV)
  | agg (l : List AV)
  | tup (l : List AV)
  | bp (i off : Nat)
  | xp (i off : Nat)
  | mo (i : Nat)
  | mx (i : Nat)
  | bs (i off k n c : Nat)
  | xs (i off k n c : Nat)
  | gv (b : Bool) (x : AV)
  | ep (l : List AV)
  | fn (f : Fn) (first cap : List AV)
  | ifc (t : TypeId) (x : AV)
  deriving Inhabited

def AV.isAgg : AV → Bool | .agg _ => true | _ => false
def VisAgg : Value → Bool | .agg _ => true | _ => false
theorem visAgg_of {v : Value} (h : v.oneCell' = true) : VisAgg v = false := by cases v <;> simp_all [VisAgg, Value.oneCell']
abbrev Hw := Nat → Option Nat

def Cells (w : World) (hw : Hw) (b o : Nat) (vs : List Value) : Prop :=
  ∃ h, hw b = some h ∧ o + vs.length ≤ h ∧ ∀ j v, vs[j]? = some v → w.cell? ⟨b, o + j, none⟩ = some v

/-- A slice's elements have cells, and are no more than memory bears. -/
def SlAt (vs : List Value) (b off k n c : Nat) : Prop := 0 < k ∧ n ≤ c ∧ c ≤ 9223372036854775807 ∧ vs = [.slice (some ⟨b, off, none⟩) n c]
def Fits (k : Nat) (l : List AV) : Prop := 0 < k ∧ l.length ≤ 140737488355328

mutual
def RepV (w : World) (hw : Hw) (bs : List Nat) (base : Nat) : AV → List Value → Prop
  | .top, vs => ∃ v, vs = [v]
  | .v x, vs => vs = [x]
  | .sl k l, vs => ∃ a c, vs = [.slice a l.length c] ∧ l.length ≤ c ∧ Fits k l ∧ (l = [] ∨ ∃ b o cs, a = some ⟨b, o, none⟩ ∧ Cells w hw b o cs ∧ RepE w hw k l cs)
  | .agg l, vs => RepL w hw bs base l vs
  | .tup _, _ => False
  | .bp i off, vs => ∃ b, bs[base + i]? = some b ∧ vs = [.pointer (some ⟨b, off, none⟩)]
  | .xp i off, vs => i < base ∧ ∃ b, bs[i]? = some b ∧ vs = [.pointer (some ⟨b, off, none⟩)]
  | .mo i, vs => ∃ b, bs[base + i]? = some b ∧ vs = [.map (some b)]
  | .mx i, vs => i < base ∧ ∃ b, bs[i]? = some b ∧ vs = [.map (some b)]
  | .bs i off k n c, vs => ∃ b, bs[base + i]? = some b ∧ SlAt vs b off k n c
  | .xs i off k n c, vs => i < base ∧ ∃ b, bs[i]? = some b ∧ SlAt vs b off k n c
  | .gv b x, vs => ∃ v, vs = [v] ∧ (b = false → v = undef) ∧ (b = true → (x.isAgg = false ∧ v.oneCell' = true) ∧ RepV w hw [] 0 x [v])
  | .ep l, vs => ∃ b o cs, vs = [.pointer (some ⟨b, o, none⟩)] ∧ Cells w hw b o cs ∧ RepL w hw [] 0 l cs
  | .fn f first cap, vs => ∃ fs cs, vs = [.func f fs cs] ∧ RepL w hw bs base first fs.toList ∧ RepL w hw bs base cap cs.toList
  | .ifc t x, vs => ∃ u, vs = [.iface t u] ∧ RepV w hw [] 0 x u.cells.toList ∧ VisAgg u = x.isAgg
def RepL (w : World) (hw : Hw) (bs : List Nat) (base : Nat) : List AV → List Value → Prop
  | [], vs => vs = []
  | x :: xs, vs => ∃ v vs', vs = v :: vs' ∧ (RepV w hw bs base x [v] ∧ x.isAgg = false ∧ v.oneCell' = true) ∧ RepL w hw bs base xs vs'
def RepE (w : World) (hw : Hw) (k : Nat) : List AV → List Value → Prop
  | [], vs => vs = []
  | x :: xs, vs => k ≤ vs.length ∧ (RepV w hw [] 0 x (vs.take k) ∧ (x.isAgg = false → ∀ v ∈ vs.take k, v.oneCell' = true)) ∧ RepE w hw k xs (vs.drop k)
end

/-- What was known of array cells is known still. -/
def HwLe (w : World) (hw : Hw) (w' : World) (hw' : Hw) : Prop :=
  ∀ b h, hw b = some h → ∃ h', hw' b = some h' ∧ h ≤ h' ∧ ∀ o, o < h ∨ w.cell? ⟨b, o, none⟩ = none → w'.cell? ⟨b, o, none⟩ = w.cell? ⟨b, o, none⟩

theorem HwLe.refl (w : World) (hw : Hw) : HwLe w hw w hw := fun _ h e => ⟨h, e, Nat.le_refl _, fun _ _ => rfl⟩
theorem HwLe.trans {w1 w2 w3 : World} {h1 h2 h3 : Hw} (a : HwLe w1 h1 w2 h2) (b : HwLe w2 h2 w3 h3) : HwLe w1 h1 w3 h3 := fun n h e => by
  obtain ⟨h', e', le, c⟩ := a n h e
  obtain ⟨h'', e'', le', c'⟩ := b n h' e'
  exact ⟨h'', e'', Nat.le_trans le le', fun o ho => (c' o (ho.imp (fun ho => Nat.lt_of_lt_of_le ho le) fun hn => (c o (.inr hn)).trans hn)).trans (c o ho)⟩

theorem Cells.mono {w w' : World} {hw hw' : Hw} {b o : Nat} {vs : List Value} (H : HwLe w hw w' hw') (h : Cells w hw b o vs) : Cells w' hw' b o vs := by
  obtain ⟨n, e, le, c⟩ := h
  obtain ⟨n', e', le', c'⟩ := H b n e
  refine ⟨n', e', Nat.le_trans le le', fun j v hj => ?_⟩
  have hl : j < vs.length := by
    rcases Nat.lt_or_ge j vs.length with h | h
    · exact h
    · rw [List.getElem?_eq_none h] at hj; cases hj
  rw [c' _ (.inl (by omega))]
  exact c j v hj

mutual
theorem RepV.mono {w w' : World} {hw hw' : Hw} (H : HwLe w hw w' hw') {bs bs' : List Nat} {base : Nat} (B : ∀ (i b : Nat), bs[i]? = some b → bs'[i]? = some b) :
    ∀ (a : AV) (vs : List Value), RepV w hw bs base a vs → RepV w' hw' bs' base a vs
  | .top, _, h => by simpa only [RepV] using h
  | .v x, _, h => by simpa only [RepV] using h
  | .sl k l, _, h => by
    simp only [RepV] at h ⊢
    obtain ⟨a, c, e, hc, hk, h⟩ := h
    refine ⟨a, c, e, hc, hk, h.imp id ?_⟩
    rintro ⟨b, o, cs, ea, hcs, hr⟩
    exact ⟨b, o, cs, ea, hcs.mono H, RepE.mono H l cs hr⟩
  | .agg l, vs, h => by simp only [RepV] at h ⊢; exact RepL.mono H B l vs h
  | .tup _, _, h => by simp only [RepV] at h
  | .bp i off, _, h => by simp only [RepV] at h ⊢; obtain ⟨b, e, r⟩ := h; exact ⟨b, B _ _ e, r⟩
  | .xp i off, _, h => by simp only [RepV] at h ⊢; obtain ⟨hi, b, e, r⟩ := h; exact ⟨hi, b, B _ _ e, r⟩
  | .mo i, _, h => by simp only [RepV] at h ⊢; obtain ⟨b, e, r⟩ := h; exact ⟨b, B _ _ e, r⟩
  | .mx i, _, h => by simp only [RepV] at h ⊢; obtain ⟨hi, b, e, r⟩ := h; exact ⟨hi, b, B _ _ e, r⟩
  | .bs .., _, h => by simp only [RepV] at h ⊢; obtain ⟨b, e, r⟩ := h; exact ⟨b, B _ _ e, r⟩
  | .xs .., _, h => by simp only [RepV] at h ⊢; obtain ⟨hi, b, e, r⟩ := h; exact ⟨hi, b, B _ _ e, r⟩
  | .gv b x, _, h => by simp only [RepV] at h ⊢; obtain ⟨v, e, q, r⟩ := h; exact ⟨v, e, q, fun hb => ⟨(r hb).1, RepV.mono H (fun _ _ h => h) x _ (r hb).2⟩⟩
  | .ep l, _, h => by
    simp only [RepV] at h ⊢
    obtain ⟨b, o, cs, e, hcs, hr⟩ := h
    exact ⟨b, o, cs, e, hcs.mono H, RepL.mono H (fun _ _ h => h) l cs hr⟩
  | .fn f first cap, _, h => by
    simp only [RepV] at h ⊢
    obtain ⟨fs, cs, e, h1, h2⟩ := h
    exact ⟨fs, cs, e, RepL.mono H B first _ h1, RepL.mono H B cap _ h2⟩
  | .ifc t x, _, h => by
    simp only [RepV] at h ⊢
    obtain ⟨u, e, h1, h2⟩ := h
    exact ⟨u, e, RepV.mono H (fun _ _ h => h) x _ h1, h2⟩
theorem RepL.mono {w w' : World} {hw hw' : Hw} (H : HwLe w hw w' hw') {bs bs' : List Nat} {base : Nat} (B : ∀ (i b : Nat), bs[i]? = some b → bs'[i]? = some b) :
    ∀ (l : List AV) (vs : List Value), RepL w hw bs base l vs → RepL w' hw' bs' base l vs
  | [], _, h => by simpa only [RepL] using h
  | x :: xs, _, h => by
    simp only [RepL] at h ⊢
    obtain ⟨v, vs', e, h1, h2⟩ := h
    exact ⟨v, vs', e, ⟨RepV.mono H B x _ h1.1, h1.2⟩, RepL.mono H B xs _ h2⟩
theorem RepE.mono {w w' : World} {hw hw' : Hw} (H : HwLe w hw w' hw') {k : Nat} :
    ∀ (l : List AV) (vs : List Value), RepE w hw k l vs → RepE w' hw' k l vs
  | [], _, h => by simpa only [RepE] using h
  | x :: xs, _, h => by
    simp only [RepE] at h ⊢
    obtain ⟨h0, h1, h2⟩ := h
    exact ⟨h0, ⟨RepV.mono H (fun _ _ h => h) x _ h1.1, h1.2⟩, RepE.mono H xs _ h2⟩
end

mutual
theorem RepV.lift {w : World} {hw : Hw} {bs : List Nat} {base : Nat} : ∀ (a : AV) (vs : List Value), RepV w hw [] 0 a vs → RepV w hw bs base a vs
  | .top, _, h => by simpa only [RepV] using h
  | .v x, _, h => by simpa only [RepV] using h
  | .sl k l, _, h => by simpa only [RepV] using h
  | .agg l, vs, h => by simp only [RepV] at h ⊢; exact RepL.lift l vs h
  | .tup _, _, h => by simp only [RepV] at h
  | .bp i off, _, h => by simp only [RepV] at h; obtain ⟨b, e, _⟩ := h; simp at e
  | .xp i off, _, h => by simp only [RepV] at h; exact absurd h.1 (by omega)
  | .mo i, _, h => by simp only [RepV] at h; obtain ⟨b, e, _⟩ := h; simp at e
  | .mx i, _, h => by simp only [RepV] at h; exact absurd h.1 (by omega)
  | .bs .., _, h => by simp only [RepV] at h; obtain ⟨b, e, _⟩ := h; simp at e
  | .xs .., _, h => by simp only [RepV] at h; exact absurd h.1 (by omega)
  | .ep l, _, h => by simpa only [RepV] using h
  | .fn f first cap, _, h => by
    simp only [RepV] at h ⊢
    obtain ⟨fs, cs, e, h1, h2⟩ := h
    exact ⟨fs, cs, e, RepL.lift first _ h1, RepL.lift cap _ h2⟩
  | .ifc t x, _, h => by simpa only [RepV] using h
  | .gv .., _, h => by simpa only [RepV] using h
theorem RepL.lift {w : World} {hw : Hw} {bs : List Nat} {base : Nat} : ∀ (l : List AV) (vs : List Value), RepL w hw [] 0 l vs → RepL w hw bs base l vs
  | [], _, h => by simpa only [RepL] using h
  | x :: xs, _, h => by
    simp only [RepL] at h ⊢
    obtain ⟨v, vs', e, h1, h2⟩ := h
    exact ⟨v, vs', e, ⟨RepV.lift x _ h1.1, h1.2⟩, RepL.lift xs _ h2⟩
end

/-- A value as a tree (no tuple). -/
def Rep1 (w : World) (hw : Hw) (bs : List Nat) (base : Nat) (a : AV) (y : Value) : Prop := a = .top ∨ (RepV w hw bs base a y.cells.toList ∧ VisAgg y = a.isAgg)
def RepT (w : World) (hw : Hw) (bs : List Nat) (base : Nat) : List AV → List Value → Prop
  | [], vs => vs = []
  | x :: xs, vs => ∃ v vs', vs = v :: vs' ∧ Rep1 w hw bs base x v ∧ RepT w hw bs base xs vs'
def Rep (w : World) (hw : Hw) (bs : List Nat) (base : Nat) (a : AV) (y : Value) : Prop :=
  match a with
  | .tup l => ∃ vs, y = .tuple vs ∧ RepT w hw bs base l vs.toList
  | a => Rep1 w hw bs base a y

section
variable {w w' : World} {hw hw' : Hw} (H : HwLe w hw w' hw') {bs bs' : List Nat} {base : Nat} (B : ∀ (i b : Nat), bs[i]? = some b → bs'[i]? = some b)
include H B
theorem Rep1.mono {a : AV} {y : Value} (h : Rep1 w hw bs base a y) : Rep1 w' hw' bs' base a y := h.imp id fun ⟨h1, h2⟩ => ⟨RepV.mono H B _ _ h1, h2⟩
theorem RepT.mono : ∀ (l : List AV) (vs : List Value), RepT w hw bs base l vs → RepT w' hw' bs' base l vs
  | [], _, h => h
  | x :: xs, _, h => by
    simp only [RepT] at h ⊢
    obtain ⟨v, vs', e, h1, h2⟩ := h
    exact ⟨v, vs', e, h1.mono H B, RepT.mono xs _ h2⟩
theorem Rep.mono {a : AV} {y : Value} (h : Rep w hw bs base a y) : Rep w' hw' bs' base a y := by
  cases a with
  | tup l => obtain ⟨vs, e, h⟩ := h; exact ⟨vs, e, RepT.mono H B l _ h⟩
  | _ => exact Rep1.mono H B h
end

theorem Rep1.lift {w : World} {hw : Hw} {bs : List Nat} {base : Nat} {a : AV} {y : Value} (h : Rep1 w hw [] 0 a y) : Rep1 w hw bs base a y := h.imp id fun ⟨h1, h2⟩ => ⟨RepV.lift _ _ h1, h2⟩
theorem RepT.lift {w : World} {hw : Hw} {bs : List Nat} {base : Nat} : ∀ (l : List AV) (vs : List Value), RepT w hw [] 0 l vs → RepT w hw bs base l vs
  | [], _, h => h
  | x :: xs, _, h => by
    simp only [RepT] at h ⊢
    obtain ⟨v, vs', e, h1, h2⟩ := h
    exact ⟨v, vs', e, h1.lift, RepT.lift xs _ h2⟩
theorem Rep.lift {w : World} {hw : Hw} {bs : List Nat} {base : Nat} {a : AV} {y : Value} (h : Rep w hw [] 0 a y) : Rep w hw bs base a y := by
  cases a with
  | tup l => obtain ⟨vs, e, h⟩ := h; exact ⟨vs, e, RepT.lift l _ h⟩
  | _ => exact Rep1.lift h

inductive Loc where
  | slot (i : Nat)
  | cell (i j : Nat)
  | ext
  deriving DecidableEq

structure Gh where
  bs : List Nat
  hw : Hw
  own : Nat → Option Loc

/-- The slice in this place is at the end of what is known of its block, and no other place may write behind it. -/
def OwnAt (w : World) (g : Gh) (L : Loc) (k : Nat) (y : Value) : Prop :=
  ∃ a n c, y = .slice a n c ∧ n ≤ c ∧ (c = 0 ∨ ∃ b o h cs e, a = some ⟨b, o, none⟩ ∧ g.own b = some L ∧ g.hw b = some h ∧ o + n * k = h ∧ w.heap[b]? = some (.cells cs e (0, 0)) ∧ o + c * k ≤ cs.size)

inductive Bx where
  | cells (l : List AV) (os : List Nat)
  | map (l : List (ByteArray × AV))
  deriving Inhabited

def RepM (w : World) (hw : Hw) : List (ByteArray × AV) → List MapEntry → Prop
  | [], es => es = []
  | (k, x) :: l, es => ∃ e es', es = e :: es' ∧ e.key = .string k ∧ Rep1 w hw [] 0 x e.val ∧ RepM w hw l es'

theorem RepM.mono {w w' : World} {hw hw' : Hw} (H : HwLe w hw w' hw') : ∀ (l : List (ByteArray × AV)) (es : List MapEntry), RepM w hw l es → RepM w' hw' l es
  | [], _, h => h
  | (k, x) :: l, _, h => by
    simp only [RepM] at h ⊢
    obtain ⟨e, es', r, h1, h2, h3⟩ := h
    exact ⟨e, es', r, h1, h2.mono H (fun _ _ h => h), RepM.mono H l _ h3⟩

def RepB (w : World) (g : Gh) (base i : Nat) (x : Bx) (b : Nat) : Prop :=
  match x with
  | .cells l os => ∃ cs e, w.heap[b]? = some (.cells cs e (0, 0)) ∧ RepL w g.hw g.bs base l cs.toList ∧
      ∀ j ∈ os, ∃ k l' y, l[j]? = some (.sl k l') ∧ cs[j]? = some y ∧ OwnAt w g (.cell i j) k y
  | .map l => ∃ es n, w.heap[b]? = some (.map es n) ∧ RepM w g.hw l es.toList

/-- The package variables that are read, and what lies in them (of the seat: written by its program). -/
def globs : List (Nat × List AV) := []
def globA (g : Nat) : AV :=
  match globs.find? fun p => Nat.beq p.1 g with
  | some p => .ep p.2
  | none => .top
/-- A block whose cells are all known. -/
def Whole (w : World) (hw : Hw) (b : Nat) (vs : List Value) : Prop := ∃ h, hw b = some h ∧ vs.length ≤ h ∧ ∀ j, w.cell? ⟨b, j, none⟩ = vs[j]?
theorem Whole.mono {w w' : World} {hw hw' : Hw} (H : HwLe w hw w' hw') {b : Nat} {vs : List Value} (h : Whole w hw b vs) : Whole w' hw' b vs := by
  obtain ⟨n, e, le, c⟩ := h
  obtain ⟨n', e', le', c'⟩ := H b n e
  refine ⟨n', e', Nat.le_trans le le', fun j => ?_⟩
  rw [c' j ?_]
  · exact c j
  · rcases Nat.lt_or_ge j vs.length with h | h
    · exact .inl (by omega)
    · exact .inr ((c j).trans (List.getElem?_eq_none h))
def GlobOk (w : World) (hw : Hw) : Prop := (∀ p ∈ globs, ∃ cs, Cells w hw p.1 0 cs ∧ RepL w hw [] 0 p.2 cs) ∧ ∀ p ∈ globP, ∃ vs, p.2 vs ∧ Whole w hw p.1 vs
theorem GlobOk.mono {w w' : World} {hw hw' : Hw} (H : HwLe w hw w' hw') (h : GlobOk w hw) : GlobOk w' hw' := ⟨fun p hp => by
  obtain ⟨cs, h1, h2⟩ := h.1 p hp
  exact ⟨cs, h1.mono H, RepL.mono H (fun _ _ h => h) _ _ h2⟩, fun p hp => by
  obtain ⟨vs, h1, h2⟩ := h.2 p hp
  exact ⟨vs, h1, h2.mono H⟩⟩

structure Good (w : World) (g : Gh) (mem : List Bx) (base : Nat) : Prop where
  len : g.bs.length = mem.length
  nd : g.bs.Nodup
  nohw : ∀ b ∈ g.bs, g.hw b = none
  box : ∀ i x b, mem[i]? = some x → g.bs[i]? = some b → RepB w g base i x b
  hw : ∀ b h, g.hw b = some h → ∃ cs e f, w.heap[b]? = some (.cells cs e f) ∧ h ≤ cs.size
  own : ∀ b L, g.own b = some L → ∃ h, g.hw b = some h
  glob : GlobOk w g.hw

structure Ext (keep : Loc → Prop) (w : World) (g : Gh) (w' : World) (g' : Gh) : Prop where
  size : w.heap.size ≤ w'.heap.size
  tape : w'.tape = w.tape
  os : w'.os = w.os
  output : w'.output = w.output
  hw : HwLe w g.hw w' g'.hw
  ext : ∀ (b : Nat) (L : Loc), g.own b = some L → keep L → g'.own b = some L ∧ g'.hw b = g.hw b ∧ w'.heap[b]? = w.heap[b]?
  bs : ∀ (i b : Nat), g.bs[i]? = some b → g'.bs[i]? = some b
  bsnew : ∀ b ∈ g'.bs, b ∈ g.bs ∨ w.heap.size ≤ b
  orig : ∀ b, b < w.heap.size → ∀ L, g'.own b = some L → ∃ L', g.own b = some L' ∧ (keep L' → L = L')
  old : ∀ b, b < w.heap.size → b ∉ g.bs → (∀ L, g.own b = some L → keep L) → w'.heap[b]? = w.heap[b]?

theorem Ext.refl (keep : Loc → Prop) (w : World) (g : Gh) : Ext keep w g w g :=
  ⟨Nat.le_refl _, rfl, rfl, rfl, HwLe.refl _ _, fun _ _ h _ => ⟨h, rfl, rfl⟩, fun _ _ h => h, fun _ h => .inl h, fun _ _ L h => ⟨L, h, fun _ => rfl⟩, fun _ _ _ _ => rfl⟩

theorem Ext.trans {keep : Loc → Prop} {w1 w2 w3 : World} {g1 g2 g3 : Gh} (a : Ext keep w1 g1 w2 g2) (b : Ext keep w2 g2 w3 g3) : Ext keep w1 g1 w3 g3 where
  size := Nat.le_trans a.size b.size
  tape := b.tape.trans a.tape
  os := b.os.trans a.os
  output := b.output.trans a.output
  hw := a.hw.trans b.hw
  ext n L h k := by
    obtain ⟨h1, h2, h3⟩ := a.ext n L h k
    obtain ⟨k1, k2, k3⟩ := b.ext n L h1 k
    exact ⟨k1, k2.trans h2, k3.trans h3⟩
  bs i n h := b.bs i n (a.bs i n h)
  bsnew n h := by
    rcases b.bsnew n h with h | h
    · exact a.bsnew n h
    · exact .inr (Nat.le_trans a.size h)
  orig n hn L h := by
    obtain ⟨L', h', e'⟩ := b.orig n (Nat.lt_of_lt_of_le hn a.size) L h
    obtain ⟨L'', h'', e''⟩ := a.orig n hn L' h'
    exact ⟨L'', h'', fun k => by have := e'' k; subst this; exact e' k⟩
  old n hn hb ho := by
    rw [b.old n (Nat.lt_of_lt_of_le hn a.size) ?_ ?_, a.old n hn hb ho]
    · intro h
      rcases a.bsnew n h with h | h
      · exact hb h
      · omega
    · intro L h
      obtain ⟨L', h', e'⟩ := a.orig n hn L h
      have hk := ho L' h'
      rw [e' hk]; exact hk

theorem Ext.weaken {keep keep' : Loc → Prop} (hk : ∀ L, keep' L → keep L) {w w' : World} {g g' : Gh} (a : Ext keep w g w' g') : Ext keep' w g w' g' where
  size := a.size
  tape := a.tape
  os := a.os
  output := a.output
  hw := a.hw
  ext n L h k := a.ext n L h (hk L k)
  bs := a.bs
  bsnew := a.bsnew
  orig n hn L h := by
    obtain ⟨L', h', e'⟩ := a.orig n hn L h
    exact ⟨L', h', fun k => e' (hk _ k)⟩
  old n hn hb ho := a.old n hn hb fun L h => hk L (ho L h)

theorem OwnAt.mono {w w' : World} {g g' : Gh} {L : Loc} {k : Nat} {y : Value} (h : OwnAt w g L k y)
    (H : ∀ b, g.own b = some L → g'.own b = some L ∧ g'.hw b = g.hw b ∧ w'.heap[b]? = w.heap[b]?) : OwnAt w' g' L k y := by
  obtain ⟨a, n, c, e, hn, h⟩ := h
  refine ⟨a, n, c, e, hn, h.imp id ?_⟩
  rintro ⟨b, o, h, cs, e, ea, h1, h2, h3, h4, h5⟩
  obtain ⟨k1, k2, k3⟩ := H b h1
  exact ⟨b, o, h, cs, e, ea, k1, k2.trans h2, h3, k3.trans h4, h5⟩

end Go.Ev
end
section
/- Written by this session: proofs of Go code over trees: a frame of trees, the rules of control. Conditions: none beyond those in each statement. -/
namespace Go.Ev
open Go

abbrev Fr := List (Nat × AV)
def Fr.get : Fr → Nat → AV
  | [], _ => .top
  | (j, x) :: r, i => bif Nat.beq j i then x else Fr.get r i

theorem Fr.get_cons (j : Nat) (x : AV) (r : Fr) (i : Nat) : Fr.get ((j, x) :: r) i = if j = i then x else Fr.get r i := by
  by_cases h : j = i
  · subst h; simp [Fr.get]
  · have : Nat.beq j i = false := Bool.eq_false_iff.2 fun e => h (Nat.eq_of_beq_eq_true e)
    simp [Fr.get, this, h]

structure Cfg where
  fr : Fr
  os : List Nat
  own : List Bx
  env : List Bx

def Cfg.put (c : Cfg) (d : Option Nat) (x : AV) : Cfg :=
  match d with
  | some d => match c with
    | ⟨fr, os, own, env⟩ => ⟨(d, x) :: fr, os.filter fun i => !Nat.beq i d, own, env⟩
  | none => c

/-- The tree is seen before it is used. -/
def forceV0 (x : AV) (K : AV → Prop) : Prop :=
  match x with
  | .top => K .top
  | .v y => K (.v y)
  | .sl k l => K (.sl k l)
  | .agg l => K (.agg l)
  | .tup l => K (.tup l)
  | .bp i o => K (.bp i o)
  | .xp i o => K (.xp i o)
  | .mo i => K (.mo i)
  | .mx i => K (.mx i)
  | .bs i o k n c => K (.bs i o k n c)
  | .xs i o k n c => K (.xs i o k n c)
  | .ep l => K (.ep l)
  | .fn f a b => K (.fn f a b)
  | .ifc t x => K (.ifc t x)
  | .gv b x => K (.gv b x)
def forceV (x : AV) (K : AV → Prop) : Prop :=
  match x with
  | .top => K .top
  | .v y => K (.v y)
  | .sl k l => K (.sl k l)
  | .agg l => K (.agg l)
  | .tup l => K (.tup l)
  | .bp i o => K (.bp i o)
  | .xp i o => K (.xp i o)
  | .mo i => K (.mo i)
  | .mx i => K (.mx i)
  | .bs i o k n c => K (.bs i o k n c)
  | .xs i o k n c => K (.xs i o k n c)
  | .ep l => K (.ep l)
  | .fn f a b => K (.fn f a b)
  | .ifc t x => K (.ifc t x)
  | .gv b x => forceV0 x fun x' => K (.gv b x')
theorem forceV0_iff (x : AV) (K : AV → Prop) : forceV0 x K ↔ K x := by cases x <;> exact Iff.rfl
theorem forceV_iff (x : AV) (K : AV → Prop) : forceV x K ↔ K x := by
  cases x
  case gv b x => exact forceV0_iff x fun x' => K (.gv b x')
  all_goals exact Iff.rfl
def forceN (l : List Nat) (K : List Nat → Prop) : Prop :=
  match l with
  | [] => K []
  | a :: r => forceN r fun r' => K (a :: r')
theorem forceN_iff : ∀ (l : List Nat) (K : List Nat → Prop), forceN l K ↔ K l
  | [], _ => Iff.rfl
  | a :: r, K => forceN_iff r fun r' => K (a :: r')
def forceO (l : List Bx) (K : List Bx → Prop) : Prop :=
  match l with
  | [] => K []
  | .cells a b :: r => forceO r fun r' => K (.cells a b :: r')
  | .map a :: r => forceO r fun r' => K (.map a :: r')
theorem forceO_iff : ∀ (l : List Bx) (K : List Bx → Prop), forceO l K ↔ K l
  | [], _ => Iff.rfl
  | .cells a b :: r, K => forceO_iff r fun r' => K (.cells a b :: r')
  | .map a :: r, K => forceO_iff r fun r' => K (.map a :: r')

/-- The configuration is seen before it is used. -/
def normA (c : Cfg) (K : Cfg → Prop) : Prop :=
  match c with
  | ⟨fr, os, own, env⟩ => forceN os fun os => forceO own fun own => match fr with
    | [] => K ⟨[], os, own, env⟩
    | (i, x) :: r => forceV x fun x' => K ⟨(i, x') :: r, os, own, env⟩
theorem normA_iff (c : Cfg) (K : Cfg → Prop) : normA c K ↔ K c := by
  obtain ⟨fr, os, own, env⟩ := c
  unfold normA
  simp only [forceN_iff, forceO_iff]
  cases fr with
  | nil => exact Iff.rfl
  | cons p r => obtain ⟨i, x⟩ := p; exact forceV_iff x _

def Cfg.base (c : Cfg) : Nat := c.env.length
def Cfg.mem (c : Cfg) : List Bx := c.env ++ c.own

mutual
/-- Own boxes below m alone, boxes of the surroundings below base alone. -/
def AV.cl (base m : Nat) : AV → Prop
  | .bp i _ | .mo i | .bs i _ _ _ _ => i < m
  | .xp i _ | .mx i | .xs i _ _ _ _ => i < base
  | .agg l => clL base m l
  | .fn _ a b => clL base m a ∧ clL base m b
  | .tup l => clL base m l
  | _ => True
def clL (base m : Nat) : List AV → Prop
  | [] => True
  | x :: xs => AV.cl base m x ∧ clL base m xs
end

def Bx.cl (base m : Nat) : Bx → Prop
  | .cells l _ => clL base m l
  | .map _ => True

structure Inv (n : Nat) (W0 : World) (G0 : Gh) (c : Cfg) (a : Act) (w : World) (g : Gh) : Prop where
  size : a.tmps.size = n
  defers : a.defers = []
  fr : ∀ i, i < n → Rep w g.hw g.bs c.base (Fr.get c.fr i) (a.tmps.getD i undef)
  os : ∀ i ∈ c.os, ∃ k l, Fr.get c.fr i = .sl k l ∧ OwnAt w g (.slot i) k (a.tmps.getD i undef)
  good : Good w g c.mem c.base
  ext : Ext (· = .ext) W0 G0 w g
  ecl : ∀ x ∈ c.env, Bx.cl c.base 0 x
  b0 : G0.bs.length = c.base

structure XW (P : Program) (n : Nat) (cd : Code) (Q : Exit → Cfg → Prop) (c : Cfg) : Prop where
  run : ∀ W0 G0 a w g, Inv n W0 G0 c a w g → cd.wp P (fun e a' w' => ∃ c' g', Q e c' ∧ Inv n W0 G0 c' a' w' g') a w

/-- c' says no more than c. -/
def Weak (n : Nat) (c c' : Cfg) : Prop := ∀ W0 G0 a w g, Inv n W0 G0 c a w g → ∃ g', Inv n W0 G0 c' a w g'

section
variable {P : Program} {n : Nat} {Q : Exit → Cfg → Prop} {c : Cfg}

theorem Weak.refl : Weak n c c := fun _ _ _ _ g h => ⟨g, h⟩
theorem Weak.trans {c1 c2 c3 : Cfg} (a : Weak n c1 c2) (b : Weak n c2 c3) : Weak n c1 c3 := fun W0 G0 x w g h => by
  obtain ⟨g', h'⟩ := a W0 G0 x w g h
  exact b W0 G0 x w g' h'

theorem XW.mono {cd : Code} {Q' : Exit → Cfg → Prop} (h : XW P n cd Q c) (hq : ∀ e c, Q e c → Q' e c) : XW P n cd Q' c := ⟨fun W0 G0 a w g hi =>
  wp_mono (h.run W0 G0 a w g hi) fun e _ _ ⟨c', g', q, i⟩ => ⟨c', g', hq e c' q, i⟩⟩

theorem XW.skip (h : Q .normal c) : XW P n .skip Q c := ⟨fun _ _ _ _ g hi => wp_skip ⟨c, g, h, hi⟩⟩
theorem XW.label {l : Nat} (h : Q .normal c) : XW P n (.label l) Q c := ⟨fun _ _ _ _ g hi => wp_label ⟨c, g, h, hi⟩⟩
theorem XW.exit {id : Nat} (h : Q (.exit id) c) : XW P n (.exit id) Q c := ⟨fun _ _ _ _ g hi => wp_exit ⟨c, g, h, hi⟩⟩
theorem XW.ret (h : Q .ret c) : XW P n .ret Q c := ⟨fun _ _ _ _ g hi => wp_ret ⟨c, g, h, hi⟩⟩

def Then (K : Cfg → Prop) (Q : Exit → Cfg → Prop) : Exit → Cfg → Prop
  | .normal, c => K c
  | e, c => Q e c

theorem XW.seq {x y : Code} (h : XW P n x (Then (XW P n y Q) Q) c) : XW P n (.seq x y) Q c := ⟨fun W0 G0 a w g hi => by
  refine wp_seq (wp_mono (h.run W0 G0 a w g hi) ?_)
  rintro e a' w' ⟨c', g', q, i⟩
  cases e with
  | normal => exact q.run W0 G0 a' w' g' i
  | _ => exact ⟨c', g', q, i⟩⟩

def InBlock (id : Nat) (Q : Exit → Cfg → Prop) : Exit → Cfg → Prop
  | .exit id', c => bif Nat.beq id' id then Q .normal c else Q (.exit id') c
  | e, c => Q e c

theorem XW.block {id : Nat} {x : Code} (h : XW P n x (InBlock id Q) c) : XW P n (.block id x) Q c := ⟨fun W0 G0 a w g hi => by
  refine wp_block (wp_mono (h.run W0 G0 a w g hi) ?_)
  rintro e a' w' ⟨c', g', q, i⟩
  cases e with
  | exit id' =>
    simp only [Exit.inBlock]
    simp only [InBlock] at q
    split
    · rename_i h; subst h; simp at q; exact ⟨c', g', q, i⟩
    · rename_i h
      have : Nat.beq id' id = false := Bool.eq_false_iff.2 fun e => h (Nat.eq_of_beq_eq_true e)
      rw [this] at q
      exact ⟨c', g', q, i⟩
  | _ => exact ⟨c', g', q, i⟩⟩

/-- A loop: a relation that bears a number, which every round lowers; what the relation does not speak of may be forgotten. -/
theorem XW.loop {x : Code} (J : Nat → Cfg → Prop) {m : Nat} {c0 : Cfg} (hw : Weak n c c0) (h0 : J m c0)
    (round : ∀ m c, J m c → XW P n x (Then (fun c' => ∃ m' c'', m' < m ∧ Weak n c' c'' ∧ J m' c'') Q) c) : XW P n (.loop x) Q c := ⟨fun W0 G0 a w g hi => by
  obtain ⟨g0, hi0⟩ := hw W0 G0 a w g hi
  refine wp_loop_ghost (fun m a w => ∃ c g, J m c ∧ Inv n W0 G0 c a w g) m ⟨c0, g0, h0, hi0⟩ ?_
  rintro m a w ⟨c, g, hj, hi⟩
  refine wp_mono ((round m c hj).run W0 G0 a w g hi) ?_
  rintro e a' w' ⟨c', g', q, i⟩
  cases e with
  | normal =>
    obtain ⟨m', c'', hlt, hwk, hj'⟩ := q
    obtain ⟨g'', i''⟩ := hwk W0 G0 a' w' g' i
    exact ⟨m', hlt, c'', g'', hj', i''⟩
  | _ => exact ⟨c', g', q, i⟩⟩

end

end Go.Ev
end
section
/- Written by this session: operations that leave memory as it is, over trees. Conditions: none beyond those in each statement. -/
namespace Go.Ev
open Go

def cst : Value → AV
  | .agg cs => .agg (cs.toList.map .v)
  | x => .v x

def evA (c : Cfg) : Operand → AV
  | .tmp t => Fr.get c.fr t
  | .const v => cst v
  | .func f => .fn (.func f) [] []
  | .global g => globA g

def okTmp (n : Nat) : Operand → Bool
  | .tmp t => Nat.blt t n
  | .const (.agg cs) => cs.toList.all fun x => x.oneCell'
  | _ => true

def VisTup : Value → Bool | .tuple _ => true | _ => false

def AV.leaves : AV → List AV
  | .agg l => l
  | x => [x]

def AV.isLeaf : AV → Bool
  | .agg _ | .tup _ | .top | .gv _ _ => false
  | .v x => x.oneCell'
  | _ => true

def AV.plainLeaf : AV → Bool
  | .v _ | .sl _ _ => true
  | _ => false
def pfLeaves (l : List AV) : Bool := l.all AV.plainLeaf

@[irreducible] def byteAt (s : ByteArray) (i : Nat) : UInt8 := s.data.toList.getD i 0

def isAggT (P : Program) (t : TypeId) : Bool :=
  match P.underlying t with
  | some (.struct _) | some (.array _ _) => true
  | _ => false

def intOp (op : BinOp) (k : IntKind) (a b : Int) (K : AV → Prop) : Prop :=
  match op with
  | .add => K (.v (.int k (k.wrap (a + b))))
  | .sub => K (.v (.int k (k.wrap (a - b))))
  | .mul => K (.v (.int k (k.wrap (a * b))))
  | .quo => b ≠ 0 ∧ K (.v (.int k (k.wrap (a.tdiv b))))
  | .rem => b ≠ 0 ∧ K (.v (.int k (a.tmod b)))
  | .shr => 0 ≤ b ∧ b.toNat ≤ k.bits ∧ K (.v (.int k (a.fdiv (2 ^ b.toNat))))
  | .eql => K (.v (.bool (a == b)))
  | .neq => K (.v (.bool (a != b)))
  | .lss => K (.v (.bool (decide (a < b))))
  | .leq => K (.v (.bool (decide (a ≤ b))))
  | .gtr => K (.v (.bool (decide (a > b))))
  | .geq => K (.v (.bool (decide (a ≥ b))))
  | _ => False

def beqS (a b : ByteArray) : Bool := a.toList == b.toList
def ltS (a b : ByteArray) : Bool := Op.bytesLess a.toList b.toList

def strOp (op : BinOp) (a b : ByteArray) (K : AV → Prop) : Prop :=
  match op with
  | .add => a.size + b.size ≤ 140737488355328 ∧ K (.v (.string (a ++ b)))
  | .eql => K (.v (.bool (beqS a b)))
  | .neq => K (.v (.bool !beqS a b))
  | .lss => K (.v (.bool (ltS a b)))
  | .leq => K (.v (.bool (ltS a b || beqS a b)))
  | .gtr => K (.v (.bool !(ltS a b || beqS a b)))
  | .geq => K (.v (.bool !(ltS a b)))
  | _ => False

def boolOp (P : Program) (op : BinOp) (t : TypeId) (a b : Bool) (K : AV → Prop) : Prop :=
  match P.underlying t, op with
  | some .bool, .eql => K (.v (.bool (a == b)))
  | some .bool, .neq => K (.v (.bool !(a == b)))
  | _, _ => False

def eqLeaf (P : Program) (t : TypeId) (x y : AV) : Option Bool :=
  match P.underlying t, x, y with
  | some (.int _), .v (.int k a), .v (.int k' b) => bif decide (k = k') then some (a == b) else none
  | some .bool, .v (.bool a), .v (.bool b) => some (a == b)
  | some .string, .v (.string a), .v (.string b) => some (beqS a b)
  | _, _, _ => none

def eqFieldsA (P : Program) (l m : List AV) : List Field → Option Bool
  | [] => some true
  | f :: fs => match l[f.offset]?, m[f.offset]? with
    | some x, some y => match eqLeaf P f.type x y, eqFieldsA P l m fs with
      | some a, some b => some (a && b)
      | _, _ => none
    | _, _ => none

def isConstO : Operand → Bool
  | .const _ => true
  | _ => false

/-- Are two values equal, of a type whose values are compared part by part? -/
def eqA (P : Program) (t : TypeId) (ox oy : Operand) (x y : AV) (K : Bool → Prop) : Prop :=
  match x, y with
  | .agg l, .agg m => match P.underlying t with
    | some (.struct fs) => match eqFieldsA P l m fs.toList with
      | some b => (P.stoodInHeld t = false ∧ P.eqGuardType P.depth t = false ∧ (fs.toList.all fun f => f.name != "_") = true) ∧ K b
      | none => False
    | _ => False
  | .ifc _ _, .v .nilIface => match P.underlying t with
    | some (.interface _) => K false
    | _ => False
  | .v .nilIface, .v .nilIface => match P.underlying t with
    | some (.interface _) => bif isConstO ox || isConstO oy then K true else False
    | _ => False
  | _, _ => False

def binA (P : Program) (op : BinOp) (t : TypeId) (ox oy : Operand) (x y : AV) (K : AV → Prop) : Prop :=
  match x, y with
  | .v (.int k a), .v (.int k' b) => bif decide (k = k') then intOp op k a b K else False
  | .v (.string a), .v (.string b) => strOp op a b K
  | .v (.bool a), .v (.bool b) => boolOp P op t a b K
  | x, y => match op with
    | .eql => eqA P t ox oy x y fun b => K (.v (.bool b))
    | .neq => eqA P t ox oy x y fun b => K (.v (.bool !b))
    | _ => False

def unA (op : UnOp) (x : AV) (K : AV → Prop) : Prop :=
  match op, x with
  | .not, .v (.bool b) => K (.v (.bool !b))
  | .neg, .v (.int k n) => K (.v (.int k (k.wrap (0 - n))))
  | _, _ => False

def convA (P : Program) (src dst : TypeId) (x : AV) (K : AV → Prop) : Prop :=
  match P.underlying src, P.underlying dst, x with
  | some _, some (.int k), .v (.int _ n) => K (.v (.int k (k.wrap n)))
  | some _, some .string, .v (.string s) => K (.v (.string s))
  | _, _, _ => False

def fieldAddrA (P : Program) (t : TypeId) (x : AV) (i : Nat) (K : AV → Prop) : Prop :=
  match P.underlying t with
  | some (.struct fs) =>
    match fs[i]? with
    | some f =>
      bif (P.underlying f.type).isSome && !Nat.beq (P.cellsOf f.type) 0 then
        match x with
        | .bp b off => K (.bp b (off + f.offset))
        | .xp b off => K (.xp b (off + f.offset))
        | .ep l => f.offset ≤ l.length ∧ K (.ep (l.drop f.offset))
        | _ => False
      else False
    | none => False
  | _ => False

/-- A part of leaves, as a value of a type. -/
def partA (P : Program) (t : TypeId) (l : List AV) (off : Nat) (K : AV → Prop) : Prop :=
  bif (P.underlying t).isSome then
    bif isAggT P t then off + P.cellsOf t ≤ l.length ∧ K (.agg ((l.drop off).take (P.cellsOf t)))
    else match l[off]? with
      | some x => K x
      | none => False
  else False

def fieldA (P : Program) (t : TypeId) (x : AV) (i : Nat) (K : AV → Prop) : Prop :=
  match P.underlying t, x with
  | some (.struct fs), .agg l =>
    match fs[i]? with
    | some f => partA P f.type l f.offset K
    | none => False
  | _, _ => False

def indexA (P : Program) (t : TypeId) (x i : AV) (K : AV → Prop) : Prop :=
  match P.underlying t, x, i with
  | some .string, .v (.string s), .v (.int _ n) => 0 ≤ n ∧ n < s.size ∧ K (.v (.int .u8 (byteAt s n.toNat).toNat))
  | _, _, _ => False

def indexAddrA (P : Program) (t : TypeId) (x i : AV) (K : AV → Prop) : Prop :=
  match P.underlying t, x, i with
  | some (.slice e), .sl k l, .v (.int _ n) =>
    bif (P.underlying e).isSome && Nat.beq (P.cellsOf e) k then 0 ≤ n ∧ n < l.length ∧ K (.ep (l.getD n.toNat .top).leaves) else False
  | some (.slice e), .bs b off k m _, .v (.int _ n) =>
    bif (P.underlying e).isSome && Nat.beq (P.cellsOf e) k then 0 ≤ n ∧ n < m ∧ K (.bp b (off + n.toNat * k)) else False
  | some (.slice e), .xs b off k m _, .v (.int _ n) =>
    bif (P.underlying e).isSome && Nat.beq (P.cellsOf e) k then 0 ≤ n ∧ n < m ∧ K (.xp b (off + n.toNat * k)) else False
  | _, _, _ => False

def boundA (x : Option AV) (d : Nat) (K : Nat → Prop) (most : Nat) : Prop :=
  match x with
  | none => K d
  | some (.v (.int _ n)) => 0 ≤ n ∧ n ≤ most ∧ K n.toNat
  | _ => False

def sliceA (P : Program) (t : TypeId) (x : AV) (lo hi mx : Option AV) (K : AV → Prop) : Prop :=
  match mx, P.underlying t, x with
  | none, some .string, .v (.string s) => boundA hi s.size (fun h => boundA lo 0 (fun l => K (.v (.string (s.extract l h)))) h) s.size
  | none, some (.slice e), .sl k l =>
    bif (P.underlying e).isSome && Nat.beq (P.cellsOf e) k then boundA hi l.length (fun h => boundA lo 0 (fun a => K (.sl k ((l.take h).drop a))) h) l.length else False
  | none, some (.slice e), .bs i off k n c =>
    bif (P.underlying e).isSome && Nat.beq (P.cellsOf e) k then boundA hi n (fun h => boundA lo 0 (fun a => K (.bs i (bif Nat.beq c a then off else off + a * k) k (h - a) (c - a))) h) c else False
  | none, some (.slice e), .xs i off k n c =>
    bif (P.underlying e).isSome && Nat.beq (P.cellsOf e) k then boundA hi n (fun h => boundA lo 0 (fun a => K (.xs i (bif Nat.beq c a then off else off + a * k) k (h - a) (c - a))) h) c else False
  | some m, some (.slice e), .sl k l =>
    bif (P.underlying e).isSome && Nat.beq (P.cellsOf e) k && hi.isSome then boundA (some m) 0 (fun q => boundA hi 0 (fun h => boundA lo 0 (fun a => K (.sl k ((l.take h).drop a))) h) q) l.length else False
  | some m, some (.slice e), .bs i off k _ c =>
    bif (P.underlying e).isSome && Nat.beq (P.cellsOf e) k && hi.isSome then boundA (some m) 0 (fun q => boundA hi 0 (fun h => boundA lo 0 (fun a => K (.bs i (bif Nat.beq q a then off else off + a * k) k (h - a) (q - a))) h) q) c else False
  | some m, some (.slice e), .xs i off k _ c =>
    bif (P.underlying e).isSome && Nat.beq (P.cellsOf e) k && hi.isSome then boundA (some m) 0 (fun q => boundA hi 0 (fun h => boundA lo 0 (fun a => K (.xs i (bif Nat.beq q a then off else off + a * k) k (h - a) (q - a))) h) q) c else False
  | none, some (.slice e), .v (.slice none 0 0) =>
    bif (P.underlying e).isSome then boundA hi 0 (fun h => boundA lo 0 (fun _ => K (.v (.slice none 0 0))) h) 0 else False
  | _, _, _ => False

def loadA (P : Program) (env own : List Bx) (t : TypeId) (x : AV) (K : AV → Prop) : Prop :=
  match x with
  | .bp i off => match own[i]? with
    | some (.cells l _) => partA P t l off K
    | _ => False
  | .xp i off => ∃ l os, env[i]? = some (.cells l os) ∧ partA P t l off K
  | .ep l => partA P t l 0 K
  | _ => False

def lenA (P : Program) (own env : List Bx) (t : TypeId) (x : AV) (K : AV → Prop) : Prop :=
  match P.underlying t, x with
  | some .string, .v (.string s) => K (.v (.int .i64 s.size))
  | some (.slice _), .sl _ l => K (.v (.int .i64 l.length))
  | some (.slice _), .v (.slice none n _) => K (.v (.int .i64 n))
  | some (.slice _), .bs _ _ _ n _ => K (.v (.int .i64 n))
  | some (.slice _), .xs _ _ _ n _ => K (.v (.int .i64 n))
  | some (.map _ _), .mo i => match own[i]? with
    | some (.map l) => K (.v (.int .i64 l.length))
    | _ => False
  | some (.map _ _), .mx i => match env[i]? with
    | some (.map l) => K (.v (.int .i64 l.length))
    | _ => False
  | _, _ => False

def capA (P : Program) (t : TypeId) (x : AV) (K : AV → Prop) : Prop :=
  match P.underlying t, x with
  | some (.slice _), .bs _ _ _ _ c => K (.v (.int .i64 c))
  | some (.slice _), .xs _ _ _ _ c => K (.v (.int .i64 c))
  | some (.slice _), .v (.slice none _ c) => K (.v (.int .i64 c))
  | _, _ => False

def getM (l : List (ByteArray × AV)) (s : ByteArray) : Option AV :=
  match l with
  | [] => none
  | (k, x) :: r => if s = k then some x else getM r s

def setM (l : List (ByteArray × AV)) (s : ByteArray) (v : AV) : List (ByteArray × AV) :=
  match l with
  | [] => [(s, v)]
  | (k, x) :: r => if s = k then (s, v) :: r else (k, x) :: setM r s v

/-- A map's entries. -/
def mapOf (env own : List Bx) : AV → Option (List (ByteArray × AV))
  | .mo i => match own[i]? with
    | some (.map l) => some l
    | _ => none
  | .mx i => match env[i]? with
    | some (.map l) => some l
    | _ => none
  | .v (.map none) => some []
  | _ => none

theorem mapOf_mx {env own : List Bx} {k : Nat} {l : List (ByteArray × AV)} (h : env[k]? = some (.map l)) : mapOf env own (.mx k) = some l := by
  simp only [mapOf, h]

def lookupA (P : Program) (env own : List Bx) (t : TypeId) (m k : AV) (ok : Bool) (K : AV → Prop) : Prop :=
  match P.underlying t, k with
  | some (.map kt et), .v (.string s) => match P.underlying kt, P.info? et with
    | some .string, some i => match i.zero with
      | some z => bif okTmp 0 (.const z) && !VisTup z then
          ∃ l, mapOf env own m = some l ∧ (∀ x, getM l s = some x → K (bif ok then .tup [x, .v (.bool true)] else x)) ∧ (getM l s = none → K (bif ok then .tup [cst z, .v (.bool false)] else cst z))
        else False
      | none => False
    | _, _ => False
  | _, _ => False

def min2A (x y : AV) (K : AV → Prop) : Prop :=
  match x, y with
  | .v (.int k a), .v (.int _ b) => K (.v (.int k (if b < a then b else a)))
  | _, _ => False
def max2A (x y : AV) (K : AV → Prop) : Prop :=
  match x, y with
  | .v (.int k a), .v (.int _ b) => K (.v (.int k (if b > a then b else a)))
  | _, _ => False

/-- A truth value, and when it is known. -/
def bv : AV → Option (Bool × Bool)
  | .v (.bool x) => some (true, x)
  | .gv b (.v (.bool x)) => some (b, x)
  | _ => none

def pureA (P : Program) (env own : List Bx) (ρ : Operand → AV) (o : Oper) (K : AV → Prop) : Prop :=
  match o.op with
  | .move x => K (ρ x)
  | .assign x => K (ρ x)
  | .pick c a b => (match bv (ρ c), bv (ρ a), bv (ρ b) with
    | some (bc, t), some (b1, x), some (b2, y) => bc = true ∧ (t = true → b1 = true) ∧ (t = false → b2 = true) ∧ K (.v (.bool (bif t then x else y)))
    | _, _, _ => (match ρ c with
      | .v (.bool t) => (t = true → K (ρ a)) ∧ (t = false → K (ρ b))
      | _ => False))
  | .binOp op t x y _ => binA P op t x y (ρ x) (ρ y) K
  | .unOp op _ x => unA op (ρ x) K
  | .convert s d x => convA P s d (ρ x) K
  | .fieldAddr t x i => fieldAddrA P t (ρ x) i K
  | .field t x i => fieldA P t (ρ x) i K
  | .index t x i => indexA P t (ρ x) (ρ i) K
  | .indexAddr t x i => indexAddrA P t (ρ x) (ρ i) K
  | .slice t x lo hi mx => sliceA P t (ρ x) (lo.map ρ) (hi.map ρ) (mx.map ρ) K
  | .load t a => loadA P env own t (ρ a) K
  | .lookup t x i ok => lookupA P env own t (ρ x) (ρ i) ok K
  | .nilCheck x => match ρ x with
    | .bp i off => K (.bp i off)
    | .xp i off => K (.xp i off)
    | .ep l => K (.ep l)
    | _ => False
  | .makeInterface t x => (match P.underlying t, ρ x with
    | some (.interface _), _ => False
    | some _, .v y => bif y.oneCell' then K (.ifc t (.v y)) else False
    | some _, .sl k l => K (.ifc t (.sl k l))
    | some _, .agg l => bif pfLeaves l then K (.ifc t (.agg l)) else False
    | _, _ => False)
  | .makeFunc fn first cap => bif (first.toList.map ρ).all AV.isLeaf && (cap.toList.map ρ).all AV.isLeaf then K (.fn fn (first.toList.map ρ) (cap.toList.map ρ)) else False
  | .extract x i => match ρ x with
    | .tup l => match l[i]? with
      | some y => K y
      | none => False
    | _ => False
  | .call c => match c.callee, c.args.toList, c.argTypes.toList with
    | .builtin .len, [x], [t] => lenA P own env t (ρ x) K
    | .builtin .cap, [x], [t] => capA P t (ρ x) K
    | .builtin .min, [x, y], _ => min2A (ρ x) (ρ y) K
    | .builtin .max, [x, y], _ => max2A (ρ x) (ρ y) K
    | _, _, _ => False
  | _ => False

/-- The operation gives this tree, and leaves the world as it is. -/
def PureAt (P : Program) (env own : List Bx) (ρA : Operand → AV) (o : Oper) (v : AV) : Prop :=
  ∀ (ρ : Operand → Value) (w : World) (g : Gh), Good w g (env ++ own) env.length → (∀ x, x ∈ o.op.operands → Rep w g.hw g.bs env.length (ρA x) (ρ x)) →
    ∃ u, (execOp ρ o).run P w = .ok (.value u) w ∧ Rep w g.hw g.bs env.length v u

end Go.Ev
end
section
/- Written by this session: the operations that leave memory as it is give what the trees say. Conditions: none beyond those in each statement. -/
namespace Go.Ev
open Go

theorem cells_toList_of {y : Value} (h : VisAgg y = false) : y.cells.toList = [y] := by cases y <;> simp_all [Value.cells, VisAgg]
theorem agg_of {y : Value} (h : VisAgg y = true) : ∃ cs, y = .agg cs ∧ y.cells = cs := by cases y <;> simp_all [Value.cells, VisAgg]

section
variable {w : World} {hw : Hw} {bs : List Nat} {base : Nat} {y : Value}

theorem rep_v {x : Value} (h : Rep w hw bs base (.v x) y) : y = x ∧ VisAgg x = false := by
  rcases h with h | ⟨h1, h2⟩
  · cases h
  · simp only [AV.isAgg] at h2
    rw [cells_toList_of h2] at h1
    simp only [RepV] at h1
    simp at h1; subst h1; exact ⟨rfl, h2⟩
theorem rep_v_mk {x : Value} (h : VisAgg x = false) : Rep w hw bs base (.v x) x := .inr ⟨by simp [RepV, cells_toList_of h], by simp [AV.isAgg, h]⟩
theorem rep_int {k : IntKind} {n : Int} : Rep w hw bs base (.v (.int k n)) (.int k n) := rep_v_mk rfl
theorem rep_bool {b : Bool} : Rep w hw bs base (.v (.bool b)) (.bool b) := rep_v_mk rfl
theorem rep_string {s : ByteArray} : Rep w hw bs base (.v (.string s)) (.string s) := rep_v_mk rfl

theorem rep_agg {l : List AV} (h : Rep w hw bs base (.agg l) y) : ∃ cs, y = .agg cs ∧ RepL w hw bs base l cs.toList := by
  rcases h with h | ⟨h1, h2⟩
  · cases h
  · obtain ⟨cs, rfl, e⟩ := agg_of (by simpa [AV.isAgg] using h2)
    exact ⟨cs, rfl, by simpa [RepV, Value.cells] using h1⟩
theorem rep_agg_mk {l : List AV} {cs : Array Value} (h : RepL w hw bs base l cs.toList) : Rep w hw bs base (.agg l) (.agg cs) :=
  .inr ⟨by simpa [RepV, Value.cells] using h, rfl⟩

/-- A leaf is one cell. -/
theorem rep_leaf {a : AV} (hl : a.isAgg = false) (ht : a ≠ .top) (hu : ∀ l, a ≠ .tup l) (h : Rep w hw bs base a y) : RepV w hw bs base a [y] ∧ VisAgg y = false := by
  have h' : Rep1 w hw bs base a y := by cases a <;> first | exact h | exact absurd rfl (hu _)
  rcases h' with h | ⟨h1, h2⟩
  · exact absurd h ht
  · rw [hl] at h2
    rw [cells_toList_of h2] at h1
    exact ⟨h1, h2⟩

theorem rep_sl {k : Nat} {l : List AV} (h : Rep w hw bs base (.sl k l) y) : ∃ a c, y = .slice a l.length c ∧ l.length ≤ c ∧ 0 < k ∧ (l = [] ∨ ∃ b o cs, a = some ⟨b, o, none⟩ ∧ Cells w hw b o cs ∧ RepE w hw k l cs) := by
  have := (rep_leaf rfl (by simp) (by simp) h).1
  simp only [RepV] at this
  obtain ⟨a, c, e, r1, r2, r3⟩ := this
  simp at e
  exact ⟨a, c, e, r1, r2.1, r3⟩
theorem rep_fits {k : Nat} {l : List AV} (h : Rep w hw bs base (.sl k l) y) : Fits k l := by
  have := (rep_leaf rfl (by simp) (by simp) h).1
  simp only [RepV] at this
  obtain ⟨a, c, e, r1, r2, r3⟩ := this
  exact r2
theorem rep_bp {i off : Nat} (h : Rep w hw bs base (.bp i off) y) : ∃ b, bs[base + i]? = some b ∧ y = .pointer (some ⟨b, off, none⟩) := by
  have := (rep_leaf rfl (by simp) (by simp) h).1
  simp only [RepV] at this
  obtain ⟨b, e, r⟩ := this
  simp at r
  exact ⟨b, e, r⟩
theorem rep_xp {i off : Nat} (h : Rep w hw bs base (.xp i off) y) : i < base ∧ ∃ b, bs[i]? = some b ∧ y = .pointer (some ⟨b, off, none⟩) := by
  have := (rep_leaf rfl (by simp) (by simp) h).1
  simp only [RepV] at this
  obtain ⟨h0, b, e, r⟩ := this
  simp at r
  exact ⟨h0, b, e, r⟩
theorem rep_mo {i : Nat} (h : Rep w hw bs base (.mo i) y) : ∃ b, bs[base + i]? = some b ∧ y = .map (some b) := by
  have := (rep_leaf rfl (by simp) (by simp) h).1
  simp only [RepV] at this
  obtain ⟨b, e, r⟩ := this
  simp at r
  exact ⟨b, e, r⟩
theorem rep_mx {i : Nat} (h : Rep w hw bs base (.mx i) y) : i < base ∧ ∃ b, bs[i]? = some b ∧ y = .map (some b) := by
  have := (rep_leaf rfl (by simp) (by simp) h).1
  simp only [RepV] at this
  obtain ⟨h0, b, e, r⟩ := this
  simp at r
  exact ⟨h0, b, e, r⟩
theorem rep_bs {i off k n c : Nat} (h : Rep w hw bs base (.bs i off k n c) y) : ∃ b, bs[base + i]? = some b ∧ 0 < k ∧ n ≤ c ∧ c ≤ 9223372036854775807 ∧ y = .slice (some ⟨b, off, none⟩) n c := by
  have := (rep_leaf rfl (by simp) (by simp) h).1
  simp only [RepV] at this
  obtain ⟨b, e, h1, h2, h3, r⟩ := this
  simp at r
  exact ⟨b, e, h1, h2, h3, r⟩
theorem rep_xs {i off k n c : Nat} (h : Rep w hw bs base (.xs i off k n c) y) : i < base ∧ ∃ b, bs[i]? = some b ∧ 0 < k ∧ n ≤ c ∧ c ≤ 9223372036854775807 ∧ y = .slice (some ⟨b, off, none⟩) n c := by
  have := (rep_leaf rfl (by simp) (by simp) h).1
  simp only [RepV] at this
  obtain ⟨h0, b, e, h1, h2, h3, r⟩ := this
  simp at r
  exact ⟨h0, b, e, h1, h2, h3, r⟩
theorem rep_ep {l : List AV} (h : Rep w hw bs base (.ep l) y) : ∃ b o cs, y = .pointer (some ⟨b, o, none⟩) ∧ Cells w hw b o cs ∧ RepL w hw [] 0 l cs := by
  have := (rep_leaf rfl (by simp) (by simp) h).1
  simp only [RepV] at this
  obtain ⟨b, o, cs, e, r⟩ := this
  simp at e
  exact ⟨b, o, cs, e, r⟩
theorem rep_mk_leaf {a : AV} (ha : a.isAgg = false) (hy : VisAgg y = false) (h : RepV w hw bs base a [y]) : Rep w hw bs base a y := by
  have h1 : Rep1 w hw bs base a y := .inr ⟨by rw [cells_toList_of hy]; exact h, by rw [hy, ha]⟩
  cases a <;> first | exact h1 | (simp only [RepV] at h)
theorem rep_bp_mk {i off b : Nat} (h : bs[base + i]? = some b) : Rep w hw bs base (.bp i off) (.pointer (some ⟨b, off, none⟩)) := rep_mk_leaf rfl rfl (by simp only [RepV]; exact ⟨b, h, rfl⟩)
theorem rep_xp_mk {i off b : Nat} (h0 : i < base) (h : bs[i]? = some b) : Rep w hw bs base (.xp i off) (.pointer (some ⟨b, off, none⟩)) := rep_mk_leaf rfl rfl (by simp only [RepV]; exact ⟨h0, b, h, rfl⟩)
theorem rep_ep_mk {l : List AV} {b o : Nat} {cs : List Value} (h1 : Cells w hw b o cs) (h2 : RepL w hw [] 0 l cs) : Rep w hw bs base (.ep l) (.pointer (some ⟨b, o, none⟩)) := rep_mk_leaf rfl rfl (by simp only [RepV]; exact ⟨b, o, cs, rfl, h1, h2⟩)
theorem rep_sl_mk {k n : Nat} {l : List AV} {a : Option Addr} {c : Nat} (hn : n = l.length) (hc : l.length ≤ c) (hk : Fits k l) (h : l = [] ∨ ∃ b o cs, a = some ⟨b, o, none⟩ ∧ Cells w hw b o cs ∧ RepE w hw k l cs) : Rep w hw bs base (.sl k l) (.slice a n c) :=
  rep_mk_leaf rfl rfl (by simp only [RepV]; exact ⟨a, c, by rw [hn], hc, hk, h⟩)

theorem RepL.length : ∀ {l : List AV} {vs : List Value}, RepL w hw bs base l vs → vs.length = l.length
  | [], _, h => by simp only [RepL] at h; subst h; rfl
  | x :: xs, _, h => by simp only [RepL] at h; obtain ⟨v, vs', rfl, _, h⟩ := h; simp [RepL.length h]
theorem RepL.drop : ∀ {l : List AV} {vs : List Value} (n : Nat), RepL w hw bs base l vs → RepL w hw bs base (l.drop n) (vs.drop n)
  | l, vs, 0, h => by simpa using h
  | [], _, n + 1, h => by simp only [RepL] at h; subst h; simp [RepL]
  | x :: xs, _, n + 1, h => by simp only [RepL] at h; obtain ⟨v, vs', rfl, _, h⟩ := h; simpa using RepL.drop n h
theorem RepL.take : ∀ {l : List AV} {vs : List Value} (n : Nat), RepL w hw bs base l vs → RepL w hw bs base (l.take n) (vs.take n)
  | l, vs, 0, h => by simp [RepL]
  | [], _, n + 1, h => by simp only [RepL] at h; subst h; simp [RepL]
  | x :: xs, _, n + 1, h => by
    simp only [RepL] at h; obtain ⟨v, vs', rfl, h1, h⟩ := h
    simp only [List.take_succ_cons, RepL]
    exact ⟨v, _, rfl, h1, RepL.take n h⟩
theorem RepL.get : ∀ {l : List AV} {vs : List Value} {n : Nat} {x : AV}, RepL w hw bs base l vs → l[n]? = some x → ∃ v, vs[n]? = some v ∧ RepV w hw bs base x [v] ∧ x.isAgg = false ∧ v.oneCell' = true
  | [], _, _, _, _, h => by simp at h
  | a :: l, _, 0, x, h, e => by simp only [RepL] at h; obtain ⟨v, vs', rfl, h1, h⟩ := h; simp at e; subst e; exact ⟨v, rfl, h1⟩
  | a :: l, _, n + 1, x, h, e => by simp only [RepL] at h; obtain ⟨v, vs', rfl, h1, h⟩ := h; simp at e; simpa using RepL.get h e
/-- One cell alone: no struct. -/
theorem repV_one {x : AV} {v : Value} (hv : v.oneCell' = true) (hx : x.isAgg = false) (h : RepV w hw bs base x [v]) : Rep w hw bs base x v := rep_mk_leaf hx (visAgg_of hv) h

theorem RepE.len : ∀ {k : Nat} {l : List AV} {vs : List Value}, RepE w hw k l vs → vs.length = l.length * k
  | _, [], _, h => by simp only [RepE] at h; subst h; simp
  | k, x :: xs, vs, h => by
    simp only [RepE] at h
    obtain ⟨h0, _, h⟩ := h
    have := RepE.len h
    simp only [List.length_drop] at this
    simp only [List.length_cons, Nat.succ_mul]
    omega
theorem RepE.drop : ∀ {k : Nat} {l : List AV} {vs : List Value} (n : Nat), RepE w hw k l vs → RepE w hw k (l.drop n) (vs.drop (n * k))
  | _, _, _, 0, h => by simpa using h
  | _, [], _, n + 1, h => by simp only [RepE] at h; subst h; simp [RepE]
  | k, x :: xs, vs, n + 1, h => by
    simp only [RepE] at h
    obtain ⟨h0, _, h⟩ := h
    have := RepE.drop n h
    rw [List.drop_drop] at this
    simp only [List.drop_succ_cons]
    rwa [show (n + 1) * k = k + n * k from by rw [Nat.succ_mul]; omega]
theorem RepE.take : ∀ {k : Nat} {l : List AV} {vs : List Value} (n : Nat), RepE w hw k l vs → RepE w hw k (l.take n) (vs.take (n * k))
  | _, _, _, 0, h => by simp [RepE]
  | _, [], _, n + 1, h => by simp only [RepE] at h; subst h; simp [RepE]
  | k, x :: xs, vs, n + 1, h => by
    simp only [RepE] at h
    obtain ⟨h0, h1, h⟩ := h
    have := RepE.take n h
    simp only [List.take_succ_cons, RepE]
    have e : (n + 1) * k = k + n * k := by rw [Nat.succ_mul]; omega
    refine ⟨by simp only [List.length_take]; rw [e]; omega, ?_, ?_⟩
    · rw [List.take_take, Nat.min_eq_left (by rw [e]; omega)]; exact h1
    · rw [e, List.drop_take]; simpa using this
theorem RepE.get {k : Nat} {l : List AV} {vs : List Value} {n : Nat} {x : AV} (h : RepE w hw k l vs) (e : l[n]? = some x) : (n + 1) * k ≤ vs.length ∧ RepV w hw [] 0 x ((vs.drop (n * k)).take k) ∧ (x.isAgg = false → ∀ v ∈ (vs.drop (n * k)).take k, v.oneCell' = true) := by
  have h' := RepE.drop n h
  have hn : n < l.length := by
    rcases Nat.lt_or_ge n l.length with h | h
    · exact h
    · rw [List.getElem?_eq_none h] at e; cases e
  have : l.drop n = x :: l.drop (n + 1) := by
    rw [List.drop_eq_getElem_cons hn]
    simp [List.getElem?_eq_getElem hn] at e
    rw [e]
  rw [this] at h'
  simp only [RepE] at h'
  have hl := RepE.len h
  refine ⟨?_, h'.2.1⟩
  rw [hl]
  exact Nat.mul_le_mul_right _ hn
theorem repV_leaves {x : AV} {vs : List Value} (h : RepV w hw bs base x vs) (hv : x.isAgg = false → ∀ v ∈ vs, v.oneCell' = true) : RepL w hw bs base x.leaves vs := by
  have one : ∀ v, vs = [v] → x.isAgg = false → RepL w hw bs base [x] vs := fun v e hx => by
    subst e
    simp only [RepL]
    exact ⟨v, [], rfl, ⟨h, hx, hv hx v (by simp)⟩, rfl⟩
  cases x
  case agg l => simpa only [AV.leaves, RepV] using h
  case tup => simp only [RepV] at h
  all_goals
    simp only [AV.leaves]
    have h0 := h
    simp only [RepV] at h0
  case top => obtain ⟨v, e⟩ := h0; exact one _ e rfl
  case v => exact one _ h0 rfl
  case sl k l => obtain ⟨a, c, e, r⟩ := h0; exact one _ e rfl
  case bp => obtain ⟨b, _, e⟩ := h0; exact one _ e rfl
  case xp => obtain ⟨_, b, _, e⟩ := h0; exact one _ e rfl
  case mo => obtain ⟨b, _, e⟩ := h0; exact one _ e rfl
  case mx => obtain ⟨_, b, _, e⟩ := h0; exact one _ e rfl
  case bs => obtain ⟨b, _, _, _, _, e⟩ := h0; exact one _ e rfl
  case xs => obtain ⟨_, b, _, _, _, _, e⟩ := h0; exact one _ e rfl
  case gv => obtain ⟨v, e, _⟩ := h0; exact one _ e rfl
  case ep => obtain ⟨b, o, cs, e, r⟩ := h0; exact one _ e rfl
  case fn => obtain ⟨b, o, e, r⟩ := h0; exact one _ e rfl
  case ifc => obtain ⟨b, e, r⟩ := h0; exact one _ e rfl
theorem Cells.take {b o : Nat} {vs : List Value} (n : Nat) (h : Cells w hw b o vs) : Cells w hw b o (vs.take n) := by
  obtain ⟨m, e, le, c⟩ := h
  exact ⟨m, e, by simp only [List.length_take]; omega, fun j v hj => c j v (by
    rw [List.getElem?_take] at hj; split at hj <;> simp_all)⟩
theorem Cells.drop {b o : Nat} {vs : List Value} (n : Nat) (hn : n ≤ vs.length) (h : Cells w hw b o vs) : Cells w hw b (o + n) (vs.drop n) := by
  obtain ⟨m, e, le, c⟩ := h
  exact ⟨m, e, by simp only [List.length_drop]; omega, fun j v hj => by
    rw [List.getElem?_drop] at hj
    have := c _ v hj
    rwa [← Nat.add_assoc] at this⟩
end
end Go.Ev
end
section
/- Written by this session: each operation that leaves memory as it is. Conditions: none beyond those in each statement. -/
namespace Go.Ev
open Go

section
variable {P : Program} {env own : List Bx} {ρA : Operand → AV} {o : Oper} {K : AV → Prop}

theorem cst_rep {n : Nat} {w : World} {hw : Hw} {bs : List Nat} {base : Nat} (v : Value) (h : okTmp n (.const v) = true) : Rep w hw bs base (cst v) v := by
  cases v with
  | agg cs =>
    refine rep_agg_mk ?_
    have all : ∀ l : List Value, (l.all fun x => x.oneCell') = true → RepL w hw bs base (l.map .v) l := by
      intro l
      induction l with
      | nil => intro _; simp [RepL]
      | cons x l ih =>
        intro hl
        simp only [List.all_cons, Bool.and_eq_true] at hl
        simp only [List.map_cons, RepL]
        exact ⟨x, l, rfl, ⟨by simp [RepV], rfl, hl.1⟩, ih hl.2⟩
    exact all cs.toList h
  | _ => exact rep_v_mk rfl

theorem run_und {t : TypeId} {d : TypeDesc} (h : P.underlying t = some d) (w : World) : (underlying t).run P w = .ok d w := by
  simp [underlying, h]
theorem run_size {t : TypeId} (h : (P.info? t).isSome = true) (w : World) : (sizeOf t).run P w = .ok (P.cellsOf t) w := by
  obtain ⟨i, hi⟩ := Option.isSome_iff_exists.1 h
  simp [sizeOf, typeInfo, hi, Program.cellsOf]
theorem info_of_und {t : TypeId} (h : (P.underlying t).isSome = true) : (P.info? t).isSome = true := by
  cases e : P.info? t with
  | some i => rfl
  | none => simp [Program.underlying, e] at h
theorem und_of_info {t : TypeId} (h : isAggT P t = true) : ∃ d, P.underlying t = some d := by
  unfold isAggT at h
  cases e : P.underlying t with
  | some d => exact ⟨d, rfl⟩
  | none => simp [e] at h
theorem run_isAgg {t : TypeId} {d : TypeDesc} (h : P.underlying t = some d) (w : World) : (isAgg t).run P w = .ok (isAggT P t) w := by
  unfold isAgg isAggT
  cases d <;> simp [underlying, h]

theorem addr_add (b o n : Nat) : (⟨b, o, none⟩ : Addr).add n = ⟨b, o + n, none⟩ := by
  unfold Addr.add; split <;> simp_all

theorem run_loadCellsFrom {w : World} {b o : Nat} : ∀ (n i : Nat) (acc : Array Value) (vs : List Value), vs.length = n → (∀ j v, vs[j]? = some v → w.cell? ⟨b, o + i + j, none⟩ = some v) →
    (loadCellsFrom ⟨b, o, none⟩ i n acc).run P w = .ok (acc ++ vs.toArray) w
  | 0, i, acc, vs, hn, h => by
    obtain rfl := List.length_eq_zero_iff.1 hn
    simp [loadCellsFrom]
  | n + 1, i, acc, v :: vs, hn, h => by
    have h0 := h 0 v rfl
    simp only [Nat.add_zero] at h0
    simp only [loadCellsFrom, Sem.run_bind, addr_add, run_load, h0, Result.andThen_ok]
    rw [run_loadCellsFrom n (i + 1) (acc.push v) vs (by simpa using hn) fun j x hj => by
      have := h (j + 1) x (by simpa using hj)
      rw [show o + (i + 1) + j = o + i + (j + 1) from by omega]; exact this]
    simp

theorem run_loadCells {w : World} {hw : Hw} {b o : Nat} {vs : List Value} (h : Cells w hw b o vs) {n : Nat} (hn : n = vs.length) : (loadCells ⟨b, o, none⟩ n).run P w = .ok vs.toArray w := by
  obtain ⟨m, e, le, c⟩ := h
  subst hn
  unfold loadCells
  rw [run_loadCellsFrom vs.length 0 #[] vs rfl (by simpa using c)]
  simp

/-- The cells of a place, whatever the place is. -/
def CellsAt (w : World) (b o : Nat) (vs : List Value) : Prop := ∀ j v, vs[j]? = some v → w.cell? ⟨b, o + j, none⟩ = some v
theorem Cells.at {w : World} {hw : Hw} {b o : Nat} {vs : List Value} (h : Cells w hw b o vs) : CellsAt w b o vs := h.choose_spec.2.2
theorem CellsAt.sub {w : World} {b o : Nat} {vs : List Value} (h : CellsAt w b o vs) (off n : Nat) : CellsAt w b (o + off) ((vs.drop off).take n) := fun j v hj => by
  rw [List.getElem?_take] at hj
  split at hj
  · rw [List.getElem?_drop] at hj
    have := h _ v hj
    rwa [← Nat.add_assoc] at this
  · cases hj

theorem part_load {t : TypeId} {l : List AV} {off : Nat} (h : partA P t l off K) : ∃ v, K v ∧ ∀ (w : World) (hw : Hw) (bs : List Nat) (base b o : Nat) (vs : List Value),
    CellsAt w b o vs → RepL w hw bs base l vs → ∃ u, (loadVar t ⟨b, o + off, none⟩).run P w = .ok u w ∧ Rep w hw bs base v u := by
  unfold partA at h
  cases hi0 : (P.underlying t).isSome with
  | false => simp [hi0] at h
  | true =>
    simp only [hi0, cond_true] at h
    have hi := info_of_und hi0
    cases ha : isAggT P t with
    | true =>
      simp only [ha, cond_true] at h
      obtain ⟨hle, hk⟩ := h
      refine ⟨_, hk, fun w hw bs base b o vs hc hr => ?_⟩
      obtain ⟨d, hd⟩ := und_of_info ha
      have hlen := RepL.length hr
      refine ⟨.agg ((vs.drop off).take (P.cellsOf t)).toArray, ?_, rep_agg_mk (by simpa using (hr.drop off).take _)⟩
      simp only [loadVar, Sem.run_bind, run_isAgg hd, Result.andThen_ok, ha, if_true, run_size hi]
      unfold loadCells
      rw [run_loadCellsFrom (P.cellsOf t) 0 #[] ((vs.drop off).take (P.cellsOf t)) (by simp; omega) (fun j v hj => by simpa using hc.sub off (P.cellsOf t) j v hj)]
      simp
    | false =>
      simp only [ha, cond_false] at h
      cases hx : l[off]? with
      | none => simp [hx] at h
      | some x =>
        simp only [hx] at h
        refine ⟨x, h, fun w hw bs base b o vs hc hr => ?_⟩
        obtain ⟨v, hv, hrv, h1, h2⟩ := hr.get hx
        refine ⟨v, ?_, repV_one h2 h1 hrv⟩
        cases hd : P.underlying t with
        | none => simp [hd] at hi0
        | some d => simp [loadVar, run_isAgg hd, ha, hc off v hv]

theorem cells_of_block {w : World} {b : Nat} {cs : Array Value} {e : TypeId} {f : Nat × Nat} (h : w.heap[b]? = some (.cells cs e f)) : CellsAt w b 0 cs.toList := fun j v hj => by
  simp only [World.cell?, h, Nat.zero_add, Option.isSome_none, Bool.false_eq_true, if_false]
  simpa using hj

theorem Good.own_box {w : World} {g : Gh} (G : Good w g (env ++ own) env.length) {i b : Nat} {x : Bx} (h : own[i]? = some x) (hb : g.bs[env.length + i]? = some b) : RepB w g env.length (env.length + i) x b :=
  G.box _ x b (by rw [List.getElem?_append_right (by omega)]; simpa using h) hb
theorem Good.env_box {w : World} {g : Gh} (G : Good w g (env ++ own) env.length) {i b : Nat} {x : Bx} (h : env[i]? = some x) (hb : g.bs[i]? = some b) : RepB w g env.length i x b := by
  have hi : i < env.length := by
    rcases Nat.lt_or_ge i env.length with h' | h'
    · exact h'
    · rw [List.getElem?_eq_none h'] at h; cases h
  exact G.box _ x b (by rw [List.getElem?_append_left hi]; exact h) hb

theorem rep_sliceAddr {w : World} {g : Gh} {k : Nat} {l : List AV} {n : Nat} {x : AV} {b o : Nat} {cs : List Value} (hk : 0 < k) (hc : Cells w g.hw b o cs) (hr : RepE w g.hw k l cs) (hx : l[n]? = some x) :
    Cells w g.hw b (o + n * k) ((cs.drop (n * k)).take k) ∧ RepL w g.hw [] 0 x.leaves ((cs.drop (n * k)).take k) := by
  obtain ⟨h1, h2, h3⟩ := hr.get hx
  have : n * k + k ≤ cs.length := by rw [Nat.succ_mul] at h1; exact h1
  exact ⟨(hc.drop (n * k) (by omega)).take k, repV_leaves h2 h3⟩

theorem sliceBound_run {k : IntKind} {n : Int} {y : Nat} (h0 : 0 ≤ n) (h1 : n ≤ y) (cd : BoundsCode) (w : World) : (Instr.sliceBound (.int k n) y cd).run P w = .ok n.toNat w := by
  simp [Instr.sliceBound, asIntOf, h0, h1]

end
end Go.Ev
end
section
/- Written by this session: each operation that leaves memory as it is gives what its tree says. Conditions: none beyond those in each statement. -/
namespace Go.Ev
open Go Go.MapKept

section
variable {P : Program} {env own : List Bx} {ρA : Operand → AV} {K : AV → Prop} {dst : Option Tmp} {type : TypeId} {pos : String} {after : Array Edge} {guard : Option (Nat × Bool)}

theorem equalIn_bool {t : TypeId} {a b : Bool} (d : Nat) (hu : P.underlying t = some .bool) (w : World) : (Op.equalIn (d + 1) t (.bool a) (.bool b)).run P w = .ok (a == b) w := by
  simp only [Op.equalIn, Sem.run_bind, run_und hu, Result.andThen_ok, Sem.run_pure]
theorem equal_bool {t : TypeId} {a b : Bool} (hu : P.underlying t = some .bool) (w : World) : (Op.equal t (.bool a) (.bool b)).run P w = .ok (a == b) w := equalIn_bool 9999 hu w

theorem eqFields_run {D : Nat} {w : World} {hw : Hw} {bs : List Nat} {base : Nat} {l m : List AV} {xs ys : Array Value} (hl : RepL w hw bs base l xs.toList) (hm : RepL w hw bs base m ys.toList) :
    ∀ (fs : List Field) (b : Bool), eqFieldsA P l m fs = some b → (fs.all fun f => f.name != "_") = true → (Op.eqFields (D + 1) xs ys fs).run P w = .ok b w
  | [], b, h, _ => by simp [eqFieldsA] at h; subst h; simp [Op.eqFields]
  | f :: fs, b, h, hn => by
    simp only [List.all_cons, Bool.and_eq_true] at hn
    simp only [eqFieldsA] at h
    split at h
    · rename_i x y hx hy
      split at h
      · rename_i a b' ha hb
        cases h
        obtain ⟨u, hu, hru, hxa, hxo⟩ := hl.get hx
        obtain ⟨v, hv, hrv, hya, hyo⟩ := hm.get hy
        have hu' : xs[f.offset]? = some u := by simpa using hu
        have hv' : ys[f.offset]? = some v := by simpa using hv
        have ih := eqFields_run (D := D) hl hm fs b' hb hn.2
        have hne : f.name ≠ "_" := by simpa using hn.1
        have leaf : isAggT P f.type = false ∧ (∃ d, P.underlying f.type = some d) ∧ (Op.equalIn (D + 1) f.type u v).run P w = .ok a w := by
          unfold eqLeaf at ha
          split at ha
          · rename_i k0 k p k' q ht
            by_cases hk : k = k'
            · subst hk
              simp only [decide_true, cond_true, Option.some.injEq] at ha
              simp only [RepV, List.cons.injEq, and_true] at hru hrv
              subst ha hru hrv
              exact ⟨by simp [isAggT, ht], ⟨_, ht⟩, by simp [Op.equalIn, run_und ht]⟩
            · simp [hk] at ha
          · rename_i p q ht
            simp only [RepV, List.cons.injEq, and_true] at hru hrv
            simp only [Option.some.injEq] at ha
            subst ha hru hrv
            exact ⟨by simp [isAggT, ht], ⟨_, ht⟩, equalIn_bool D ht w⟩
          · rename_i p q ht
            simp only [RepV, List.cons.injEq, and_true] at hru hrv
            simp only [Option.some.injEq] at ha
            subst ha hru hrv
            exact ⟨by simp [isAggT, ht], ⟨_, ht⟩, Go.run_equalIn_string w D f.type p q ht⟩
          · cases ha
        obtain ⟨h1, ⟨d, h2⟩, h3⟩ := leaf
        have pu : (part f.type xs f.offset).run P w = .ok u w := by simp [part, run_isAgg h2, h1, hu']
        have pv : (part f.type ys f.offset).run P w = .ok v w := by simp [part, run_isAgg h2, h1, hv']
        simp only [Op.eqFields, if_pos hne, Sem.run_bind, pu, pv, Result.andThen_ok, h3]
        cases a with
        | true => simpa using ih
        | false => simp
      · cases h
    · cases h

theorem eqGuard_nil {op : BinOp} {t : TypeId} {x y : Operand} (hc : (isConstO x || isConstO y) = true) (hop : op = .eql ∨ op = .neq) (w : World) : (eqGuard op t x y .nilIface .nilIface).run P w = .ok () w := by
  cases x <;> cases y <;> first | (simp [isConstO] at hc; done) | (rcases hop with rfl | rfl <;> simp [eqGuard])

theorem eq_sound {t : TypeId} {x y : Operand} {K : Bool → Prop} (h : eqA P t x y (ρA x) (ρA y) K) :
    ∃ b, K b ∧ (∀ k n, ρA x ≠ .v (.int k n)) ∧ (∀ s, ρA x ≠ .v (.string s)) ∧ ∀ (ρ : Operand → Value) (w : World) (g : Gh), Rep w g.hw g.bs env.length (ρA x) (ρ x) → Rep w g.hw g.bs env.length (ρA y) (ρ y) →
      ∀ op, op = .eql ∨ op = .neq → (eqGuard op t x y (ρ x) (ρ y)).run P w = .ok () w ∧ (binOp op t (ρ x) (ρ y)).run P w = .ok (.bool (bif decide (op = .eql) then b else !b)) w := by
  unfold eqA at h
  split at h
  · rename_i l m hx hy
    split at h
    · rename_i fs hu
      split at h
      · rename_i b hb
        obtain ⟨⟨h1, h2, h3⟩, hk⟩ := h
        refine ⟨b, hk, by simp [hx], by simp [hx], fun ρ w g rx ry op hop => ?_⟩
        obtain ⟨xs, ex, rxs⟩ := rep_agg (hx ▸ rx)
        obtain ⟨ys, ey, rys⟩ := rep_agg (hy ▸ ry)
        have hf : P.fieldsOf t = fs := by simp [Program.fieldsOf, hu]
        have he : (Op.equalIn 10000 t (.agg xs) (.agg ys)).run P w = .ok b w := by
          rw [show (10000 : Nat) = 9999 + 1 from rfl, run_equalIn_struct w 9999 t xs ys (by rw [hf]; exact hu) h1, hf]
          exact eqFields_run (D := 9998) rxs rys fs.toList b hb h3
        rw [ex, ey]
        refine ⟨run_eqGuard_agg w op t x y xs ys h2, ?_⟩
        rcases hop with rfl | rfl
        · rw [run_eql_struct, he]; rfl
        · rw [run_neq_struct, he]; rfl
      · exact h.elim
    · exact h.elim
  · rename_i t' x' hx hy
    split at h
    · rename_i ms hu
      refine ⟨false, h, by simp [hx], by simp [hx], fun ρ w g rx ry op hop => ?_⟩
      have ey := (rep_v (hy ▸ ry)).1
      obtain ⟨q1, _⟩ := rep_leaf rfl (by simp) (by simp) (hx ▸ rx)
      simp only [RepV] at q1
      obtain ⟨u, e, _⟩ := q1
      simp only [List.cons.injEq, and_true] at e
      rw [ey, e]
      refine ⟨by rcases hop with rfl | rfl <;> simp [eqGuard], ?_⟩
      have hm : P.underlying t = some (.interface (P.methodsAt t)) := by simp [Program.methodsAt, hu]
      rcases hop with rfl | rfl
      · exact run_eql_held_nil w t t' u hm
      · exact run_neq_held_nil w t t' u hm
    · exact h.elim
  · rename_i hx hy
    split at h
    · rename_i ms hu
      cases hc : (isConstO x || isConstO y) with
      | false => rw [hc] at h; exact h.elim
      | true =>
        rw [hc] at h
        refine ⟨true, h, by simp [hx], by simp [hx], fun ρ w g rx ry op hop => ?_⟩
        have ex := (rep_v (hx ▸ rx)).1
        have ey := (rep_v (hy ▸ ry)).1
        rw [ex, ey]
        refine ⟨?_, ?_⟩
        · exact eqGuard_nil hc hop w
        · have hm : P.underlying t = some (.interface (P.methodsAt t)) := by simp [Program.methodsAt, hu]
          rcases hop with rfl | rfl
          · exact run_eql_nil_nil w t hm
          · exact run_neq_nil_nil w t hm
    · exact h.elim
  · exact h.elim

theorem bin_sound {op : BinOp} {t yt : TypeId} {x y : Operand} (h : binA P op t x y (ρA x) (ρA y) K) : ∃ v, K v ∧ PureAt P env own ρA ⟨dst, .binOp op t x y yt, type, pos, after, guard⟩ v := by
  unfold binA at h
  split at h
  · rename_i k a k' b hx hy
    by_cases hk : k = k'
    · subst hk
      simp only [decide_true, cond_true] at h
      have main : ∀ v u, K v → (∀ w, (binOp op t (.int k a) (.int k b)).run P w = .ok u w) → (∀ w hw bs base, Rep w hw bs base v u) → ∃ v, K v ∧ PureAt P env own ρA ⟨dst, .binOp op t x y yt, type, pos, after, guard⟩ v := by
        intro v u hk hr hv
        refine ⟨v, hk, fun ρ w g G hρ => ⟨u, ?_, hv _ _ _ _⟩⟩
        have e1 := (rep_v (hx ▸ hρ x (by simp [Op.operands]))).1
        have e2 := (rep_v (hy ▸ hρ y (by simp [Op.operands]))).1
        simp only [execOp, e1, e2, Sem.run_bind]
        have : (eqGuard op t x y (.int k a) (.int k b)).run P w = .ok () w := by unfold eqGuard; cases op <;> simp
        simp [this, hr]
      cases op <;> simp only [intOp] at h <;> first
        | exact h.elim
        | exact main _ _ h (fun w => by simp [binOp, Op.intArith]) (fun _ _ _ _ => rep_int)
        | exact main _ _ h.2 (fun w => by simp [binOp, Op.intDiv, h.1]) (fun _ _ _ _ => rep_int)
        | exact main _ _ h (fun w => by simp [binOp, Op.intCmp]) (fun _ _ _ _ => rep_bool)
        | exact main _ _ h.2.2 (fun w => by simp only [binOp, Op.shift, if_neg (Int.not_lt.2 h.1), Nat.min_eq_left h.2.1, Sem.run_pure]) (fun _ _ _ _ => rep_int)
    · simp [hk] at h
  · rename_i a b hx hy
    have main : ∀ v u, K v → (∀ w, (binOp op t (.string a) (.string b)).run P w = .ok u w) → (∀ w hw bs base, Rep w hw bs base v u) → ∃ v, K v ∧ PureAt P env own ρA ⟨dst, .binOp op t x y yt, type, pos, after, guard⟩ v := by
      intro v u hk hr hv
      refine ⟨v, hk, fun ρ w g G hρ => ⟨u, ?_, hv _ _ _ _⟩⟩
      have e1 := (rep_v (hx ▸ hρ x (by simp [Op.operands]))).1
      have e2 := (rep_v (hy ▸ hρ y (by simp [Op.operands]))).1
      simp only [execOp, e1, e2, Sem.run_bind]
      have : (eqGuard op t x y (.string a) (.string b)).run P w = .ok () w := by unfold eqGuard; cases op <;> simp
      simp [this, hr]
    cases op <;> simp only [strOp] at h <;> first
      | exact h.elim
      | exact main _ _ h.2 (fun w => by
          have : ¬ (((a.size + b.size : Nat) : Int) > IntKind.i64.max) := by
            have := h.1
            have e : IntKind.i64.max = 9223372036854775807 := by decide
            rw [e]; omega
          have e : IntKind.i64.max = 9223372036854775807 := by decide
          simp only [binOp, Op.stringOp, this, if_false]; rfl) (fun _ _ _ _ => rep_string)
      | exact main _ _ h (fun w => by simp [binOp, Op.stringOp, beqS, ltS]) (fun _ _ _ _ => rep_bool)
  · rename_i a b hx hy
    have main : ∀ v u, K v → (∀ w, (binOp op t (.bool a) (.bool b)).run P w = .ok u w) → (∀ w hw bs base, Rep w hw bs base v u) → ∃ v, K v ∧ PureAt P env own ρA ⟨dst, .binOp op t x y yt, type, pos, after, guard⟩ v := by
      intro v u hk hr hv
      refine ⟨v, hk, fun ρ w g G hρ => ⟨u, ?_, hv _ _ _ _⟩⟩
      have e1 := (rep_v (hx ▸ hρ x (by simp [Op.operands]))).1
      have e2 := (rep_v (hy ▸ hρ y (by simp [Op.operands]))).1
      simp only [execOp, e1, e2, Sem.run_bind]
      have : (eqGuard op t x y (.bool a) (.bool b)).run P w = .ok () w := by unfold eqGuard; cases op <;> simp
      simp [this, hr]
    unfold boolOp at h
    split at h
    · rename_i hu
      exact main _ _ h (fun w => by simp only [binOp, Sem.run_bind, equal_bool hu, Result.andThen_ok, Sem.run_pure]) (fun _ _ _ _ => rep_bool)
    · rename_i hu
      exact main _ _ h (fun w => by simp only [binOp, Sem.run_bind, equal_bool hu, Result.andThen_ok, Sem.run_pure]) (fun _ _ _ _ => rep_bool)
    · exact h.elim
  · have key : ∀ q, (q = BinOp.eql ∨ q = .neq) → op = q → eqA P t x y (ρA x) (ρA y) (fun b => K (.v (.bool (bif decide (q = .eql) then b else !b)))) → ∃ v, K v ∧ PureAt P env own ρA ⟨dst, .binOp op t x y yt, type, pos, after, guard⟩ v := by
      rintro q hq rfl h
      obtain ⟨b, hk, _, _, hrun⟩ := eq_sound (env := env) h
      refine ⟨_, hk, fun ρ w g G hρ => ⟨_, ?_, rep_bool⟩⟩
      obtain ⟨h1, h2⟩ := hrun ρ w g (hρ x (by simp [Op.operands])) (hρ y (by simp [Op.operands])) op hq
      simp only [execOp, Sem.run_bind, h1, h2, Result.andThen_ok, Sem.run_pure]
    split at h
    · exact key .eql (.inl rfl) rfl h
    · exact key .neq (.inr rfl) rfl h
    · exact h.elim

theorem un_sound {op : UnOp} {t : TypeId} {x : Operand} (h : unA op (ρA x) K) : ∃ v, K v ∧ PureAt P env own ρA ⟨dst, .unOp op t x, type, pos, after, guard⟩ v := by
  unfold unA at h
  split at h
  · rename_i b hx
    refine ⟨_, h, fun ρ w g G hρ => ⟨.bool !b, ?_, rep_bool⟩⟩
    have e1 := (rep_v (hx ▸ hρ x (by simp [Op.operands]))).1
    simp [execOp, e1, Op.unary]
  · rename_i k n hx
    refine ⟨_, h, fun ρ w g G hρ => ⟨.int k (k.wrap (0 - n)), ?_, rep_int⟩⟩
    have e1 := (rep_v (hx ▸ hρ x (by simp [Op.operands]))).1
    simp [execOp, e1, Op.unary, Op.intArith]
  · exact h.elim

theorem conv_sound {s d : TypeId} {x : Operand} (h : convA P s d (ρA x) K) : ∃ v, K v ∧ PureAt P env own ρA ⟨dst, .convert s d x, type, pos, after, guard⟩ v := by
  unfold convA at h
  split at h
  · rename_i ds k k' n hs hd hx
    refine ⟨_, h, fun ρ w g G hρ => ⟨.int k (k.wrap n), ?_, rep_int⟩⟩
    have e1 := (rep_v (hx ▸ hρ x (by simp [Op.operands]))).1
    simp [execOp, e1, convert, underlying, hs, hd, Conv.intToInt]
  · rename_i ds st hs hd hx
    refine ⟨_, h, fun ρ w g G hρ => ⟨.string st, ?_, rep_string⟩⟩
    have e1 := (rep_v (hx ▸ hρ x (by simp [Op.operands]))).1
    simp [execOp, e1, convert, underlying, hs, hd]
  · exact h.elim

theorem fieldAddr_sound {t : TypeId} {x : Operand} {i : Nat} (h : fieldAddrA P t (ρA x) i K) : ∃ v, K v ∧ PureAt P env own ρA ⟨dst, .fieldAddr t x i, type, pos, after, guard⟩ v := by
  unfold fieldAddrA at h
  split at h
  · rename_i fs hu
    split at h
    · rename_i f hf
      cases h0 : (P.underlying f.type).isSome with
      | false => simp [h0] at h
      | true =>
        cases hz : Nat.beq (P.cellsOf f.type) 0 with
        | true => simp [hz] at h
        | false =>
          simp only [h0, hz, Bool.not_false, Bool.and_true, cond_true] at h
          have hz' : P.cellsOf f.type ≠ 0 := fun e => by rw [e] at hz; cases hz
          have run : ∀ (ρ : Operand → Value) (w : World) (b off : Nat), ρ x = .pointer (some ⟨b, off, none⟩) → (execOp ρ ⟨dst, .fieldAddr t x i, type, pos, after, guard⟩).run P w = .ok (.value (.pointer (some ⟨b, off + f.offset, none⟩))) w := by
            intro ρ w b off e
            simp [execOp, e, Instr.fieldAt, underlying, hu, hf, Instr.sureAddr, fieldPlace, run_size (info_of_und h0), hz', addr_add]
          split at h
          · rename_i b off hx
            refine ⟨_, h, fun ρ w g G hρ => ?_⟩
            obtain ⟨bb, hb, e⟩ := rep_bp (hx ▸ hρ x (by simp [Op.operands]))
            exact ⟨_, run ρ w bb off e, rep_bp_mk hb⟩
          · rename_i b off hx
            refine ⟨_, h, fun ρ w g G hρ => ?_⟩
            obtain ⟨h0, bb, hb, e⟩ := rep_xp (hx ▸ hρ x (by simp [Op.operands]))
            exact ⟨_, run ρ w bb off e, rep_xp_mk h0 hb⟩
          · rename_i l hx
            refine ⟨_, h.2, fun ρ w g G hρ => ?_⟩
            obtain ⟨b, o, cs, e, hc, hr⟩ := rep_ep (hx ▸ hρ x (by simp [Op.operands]))
            exact ⟨_, run ρ w b o e, rep_ep_mk (hc.drop f.offset (by rw [RepL.length hr]; exact h.1)) (hr.drop _)⟩
          · exact h.elim
    · exact h.elim
  · exact h.elim

theorem part_val {t : TypeId} {l : List AV} {off : Nat} (h : partA P t l off K) : ∃ v, K v ∧ ∀ (w : World) (hw : Hw) (bs : List Nat) (base : Nat) (cs : Array Value),
    RepL w hw bs base l cs.toList → ∃ u, (part t cs off).run P w = .ok u w ∧ Rep w hw bs base v u := by
  unfold partA at h
  cases hi0 : (P.underlying t).isSome with
  | false => simp [hi0] at h
  | true =>
    simp only [hi0, cond_true] at h
    have hi := info_of_und hi0
    obtain ⟨d, hd⟩ := Option.isSome_iff_exists.1 hi0
    cases ha : isAggT P t with
    | true =>
      simp only [ha, cond_true] at h
      obtain ⟨hle, hk⟩ := h
      refine ⟨_, hk, fun w hw bs base cs hr => ⟨.agg (cs.extract off (off + P.cellsOf t)), ?_, rep_agg_mk ?_⟩⟩
      · simp [part, run_isAgg hd, ha, run_size hi]
      · have := (hr.drop off).take (P.cellsOf t)
        simpa [List.drop_take, Nat.add_sub_cancel_left] using this
    | false =>
      simp only [ha, cond_false] at h
      cases hx : l[off]? with
      | none => simp [hx] at h
      | some x =>
        simp only [hx] at h
        refine ⟨x, h, fun w hw bs base cs hr => ?_⟩
        obtain ⟨v, hv, hrv, h1, h2⟩ := hr.get hx
        refine ⟨v, ?_, repV_one h2 h1 hrv⟩
        have : cs[off]? = some v := by simpa using hv
        simp [part, run_isAgg hd, ha, this]

theorem field_sound {t : TypeId} {x : Operand} {i : Nat} (h : fieldA P t (ρA x) i K) : ∃ v, K v ∧ PureAt P env own ρA ⟨dst, .field t x i, type, pos, after, guard⟩ v := by
  unfold fieldA at h
  split at h
  · rename_i fs l hu hx
    split at h
    · rename_i f hf
      obtain ⟨v, hk, hv⟩ := part_val h
      refine ⟨v, hk, fun ρ w g G hρ => ?_⟩
      obtain ⟨cs, e, hr⟩ := rep_agg (hx ▸ hρ x (by simp [Op.operands]))
      obtain ⟨u, hu', hrep⟩ := hv w g.hw g.bs env.length cs hr
      exact ⟨u, by simp [execOp, e, Instr.field, underlying, hu, hf, asAgg, hu'], hrep⟩
    · exact h.elim
  · exact h.elim

theorem byte_get (s : ByteArray) (n : Nat) (h : n < s.size) : s[n]? = some (byteAt s n) := by
  have h' : n < s.data.toList.length := by simpa using h
  have : byteAt s n = s[n] := by
    unfold byteAt
    rw [List.getD_eq_getElem?_getD, List.getElem?_eq_getElem h']
    rfl
  rw [this]
  simp [getElem?_pos, h]

theorem index_sound {t : TypeId} {x i : Operand} (h : indexA P t (ρA x) (ρA i) K) : ∃ v, K v ∧ PureAt P env own ρA ⟨dst, .index t x i, type, pos, after, guard⟩ v := by
  unfold indexA at h
  split at h
  · rename_i s k n hu hx hi
    obtain ⟨h0, h1, hk⟩ := h
    refine ⟨_, hk, fun ρ w g G hρ => ⟨_, ?_, rep_int⟩⟩
    have e1 := (rep_v (hx ▸ hρ x (by simp [Op.operands]))).1
    have e2 := (rep_v (hi ▸ hρ i (by simp [Op.operands]))).1
    simp [execOp, e1, e2, Instr.index, asIntOf, underlying, hu, h0, byte_get s n.toNat (by omega)]
  · exact h.elim

theorem indexAddr_sound {t : TypeId} {x i : Operand} (h : indexAddrA P t (ρA x) (ρA i) K) : ∃ v, K v ∧ PureAt P env own ρA ⟨dst, .indexAddr t x i, type, pos, after, guard⟩ v := by
  unfold indexAddrA at h
  split at h
  · rename_i e k l k' n hu hx hi
    cases h0 : (P.underlying e).isSome with
    | false => simp [h0] at h
    | true =>
      cases hz : Nat.beq (P.cellsOf e) k with
      | false => simp [hz] at h
      | true =>
        have hz' : P.cellsOf e = k := Nat.eq_of_beq_eq_true hz
        simp only [h0, hz, Bool.and_true, cond_true] at h
        obtain ⟨h1, h2, hk⟩ := h
        refine ⟨_, hk, fun ρ w g G hρ => ?_⟩
        obtain ⟨a, c, ey, hlc, hk0, hh⟩ := rep_sl (hx ▸ hρ x (by simp [Op.operands]))
        have e2 := (rep_v (hi ▸ hρ i (by simp [Op.operands]))).1
        have hn : n.toNat < l.length := by omega
        rcases hh with rfl | ⟨b, o, cs, rfl, hc, hr⟩
        · simp at hn
        · have hget : l[n.toNat]? = some (l.getD n.toNat .top) := by rw [List.getD_eq_getElem?_getD, List.getElem?_eq_getElem hn]; rfl
          obtain ⟨hc', hr'⟩ := rep_sliceAddr hk0 hc hr hget
          refine ⟨_, ?_, rep_ep_mk hc' hr'⟩
          simp [execOp, ey, e2, Instr.indexAt, asIntOf, underlying, hu, h1, h2, run_size (info_of_und h0), hz', addr_add]
  · rename_i e b off k m cp k' n hu hx hi
    cases h0 : (P.underlying e).isSome with
    | false => simp [h0] at h
    | true =>
      cases hz : Nat.beq (P.cellsOf e) k with
      | false => simp [hz] at h
      | true =>
        have hz' : P.cellsOf e = k := Nat.eq_of_beq_eq_true hz
        simp only [h0, hz, Bool.and_true, cond_true] at h
        obtain ⟨h1, h2, hk⟩ := h
        refine ⟨_, hk, fun ρ w g G hρ => ?_⟩
        obtain ⟨q, hb, _, _, _, ey⟩ := rep_bs (hx ▸ hρ x (by simp [Op.operands]))
        have e2 := (rep_v (hi ▸ hρ i (by simp [Op.operands]))).1
        refine ⟨_, ?_, rep_bp_mk hb⟩
        simp [execOp, ey, e2, Instr.indexAt, asIntOf, underlying, hu, h1, h2, run_size (info_of_und h0), hz', addr_add]
  · rename_i e b off k m cp k' n hu hx hi
    cases h0 : (P.underlying e).isSome with
    | false => simp [h0] at h
    | true =>
      cases hz : Nat.beq (P.cellsOf e) k with
      | false => simp [hz] at h
      | true =>
        have hz' : P.cellsOf e = k := Nat.eq_of_beq_eq_true hz
        simp only [h0, hz, Bool.and_true, cond_true] at h
        obtain ⟨h1, h2, hk⟩ := h
        refine ⟨_, hk, fun ρ w g G hρ => ?_⟩
        obtain ⟨hib, q, hb, _, _, _, ey⟩ := rep_xs (hx ▸ hρ x (by simp [Op.operands]))
        have e2 := (rep_v (hi ▸ hρ i (by simp [Op.operands]))).1
        refine ⟨_, ?_, rep_xp_mk hib hb⟩
        simp [execOp, ey, e2, Instr.indexAt, asIntOf, underlying, hu, h1, h2, run_size (info_of_und h0), hz', addr_add]
  · exact h.elim

theorem load_sound {t : TypeId} {x : Operand} (h : loadA P env own t (ρA x) K) : ∃ v, K v ∧ PureAt P env own ρA ⟨dst, .load t x, type, pos, after, guard⟩ v := by
  unfold loadA at h
  split at h
  · rename_i i off hx
    split at h
    · rename_i l os hl
      obtain ⟨v, hk, hv⟩ := part_load h
      refine ⟨v, hk, fun ρ w g G hρ => ?_⟩
      obtain ⟨b, hb, e⟩ := rep_bp (hx ▸ hρ x (by simp [Op.operands]))
      obtain ⟨cs, et, hheap, hr, _⟩ := G.own_box hl hb
      obtain ⟨u, hu, hrep⟩ := hv w g.hw g.bs env.length b 0 cs.toList (cells_of_block hheap) hr
      exact ⟨u, by simp only [Nat.zero_add] at hu; simp [execOp, e, Instr.loadAt, Instr.sureAddr, hu], hrep⟩
    · exact h.elim
  · rename_i i off hx
    obtain ⟨l, os, hl, h⟩ := h
    obtain ⟨v, hk, hv⟩ := part_load h
    refine ⟨v, hk, fun ρ w g G hρ => ?_⟩
    obtain ⟨_, b, hb, e⟩ := rep_xp (hx ▸ hρ x (by simp [Op.operands]))
    obtain ⟨cs, et, hheap, hr, _⟩ := G.env_box hl hb
    obtain ⟨u, hu, hrep⟩ := hv w g.hw g.bs env.length b 0 cs.toList (cells_of_block hheap) hr
    exact ⟨u, by simp only [Nat.zero_add] at hu; simp [execOp, e, Instr.loadAt, Instr.sureAddr, hu], hrep⟩
  · rename_i l hx
    obtain ⟨v, hk, hv⟩ := part_load h
    refine ⟨v, hk, fun ρ w g G hρ => ?_⟩
    obtain ⟨b, o, cs, e, hc, hr⟩ := rep_ep (hx ▸ hρ x (by simp [Op.operands]))
    obtain ⟨u, hu, hrep⟩ := hv w g.hw [] 0 b o cs hc.at hr
    refine ⟨u, by simp only [Nat.add_zero] at hu; simp [execOp, e, Instr.loadAt, Instr.sureAddr, hu], hrep.lift⟩
  · exact h.elim

theorem bound_sound {x : Option Operand} {d : Nat} {K : Nat → Prop} {most : Nat} (h : boundA (x.map ρA) d K most) :
    ∃ n, K n ∧ (x = none → n = d) ∧ (x ≠ none → n ≤ most) ∧ ∀ (ρ : Operand → Value) (w : World) (hw : Hw) (bs : List Nat) (base : Nat), (∀ y, x = some y → Rep w hw bs base (ρA y) (ρ y)) →
      ∀ y, x = some y → ∃ k m, ρ y = .int k m ∧ 0 ≤ m ∧ m ≤ most ∧ m.toNat = n := by
  cases x with
  | none => exact ⟨d, h, fun _ => rfl, fun h => absurd rfl h, fun _ _ _ _ _ _ y e => by cases e⟩
  | some y =>
    simp only [Option.map_some, boundA] at h
    split at h
    · rename_i e; cases e
    · rename_i k n e
      simp only [Option.some.injEq] at e
      obtain ⟨h0, h1, hk⟩ := h
      refine ⟨n.toNat, hk, (fun h => by cases h), (fun _ => by omega), fun ρ w hw bs base hρ z ez => ?_⟩
      cases ez
      have := hρ y rfl
      rw [e] at this
      exact ⟨k, n, (rep_v this).1, h0, h1, rfl⟩
    · exact h.elim

theorem slice_sound {t : TypeId} {x : Operand} {lo hi mx : Option Operand} (h : sliceA P t (ρA x) (lo.map ρA) (hi.map ρA) (mx.map ρA) K) : ∃ v, K v ∧ PureAt P env own ρA ⟨dst, .slice t x lo hi mx, type, pos, after, guard⟩ v := by
  have hmem : ∀ y, (lo = some y ∨ hi = some y ∨ mx = some y ∨ y = x) → y ∈ (Op.slice t x lo hi mx).operands := by
    intro y h
    rcases h with rfl | rfl | rfl | rfl <;> simp [Op.operands]
  unfold sliceA at h
  split at h
  · rename_i s hm hu hx
    have hm' : mx = none := by cases mx <;> simp_all
    subst hm'
    obtain ⟨nh, h, h1, h2, h3⟩ := bound_sound h
    obtain ⟨nl, h, l1, l2, l3⟩ := bound_sound h
    refine ⟨_, h, fun ρ w g G hρ => ⟨_, ?_, rep_string⟩⟩
    have e1 := (rep_v (hx ▸ hρ x (hmem x (by simp)))).1
    have H := h3 ρ w g.hw g.bs env.length (fun y e => hρ y (hmem y (by simp [e])))
    have L := l3 ρ w g.hw g.bs env.length (fun y e => hρ y (hmem y (by simp [e])))
    have run : (Instr.slice t (.string s) (lo.map ρ) (hi.map ρ) none).run P w = .ok (.string (s.extract nl nh)) w := by
      cases hi with
      | none =>
        have := h1 rfl; subst this
        cases lo with
        | none => have := l1 rfl; subst this; simp [Instr.slice, run_und hu, Instr.sliceBounds]
        | some y =>
          obtain ⟨k, m, ey, h0, hm, rfl⟩ := L y rfl
          simp [Instr.slice, run_und hu, Instr.sliceBounds, ey, sliceBound_run h0 hm]
      | some z =>
        obtain ⟨k', m', ez, h0', hm', rfl⟩ := H z rfl
        cases lo with
        | none => have := l1 rfl; subst this; simp [Instr.slice, run_und hu, Instr.sliceBounds, ez, sliceBound_run h0' hm']
        | some y =>
          obtain ⟨k, m, ey, h0, hm, rfl⟩ := L y rfl
          simp [Instr.slice, run_und hu, Instr.sliceBounds, ey, ez, sliceBound_run h0' hm', sliceBound_run h0 hm]
    have run' : (Instr.sliceAt t (.string s) (lo.map ρ) (hi.map ρ) none).run P w = .ok (.string (s.extract nl nh)) w := by
      simp only [Instr.sliceAt, Sem.run_bind, run_und hu, Result.andThen_ok]; exact run
    simp [execOp, e1, run']
  · rename_i e k l hm hu hx
    have hm' : mx = none := by cases mx <;> simp_all
    subst hm'
    cases hz0 : (P.underlying e).isSome with
    | false => simp [hz0] at h
    | true =>
      cases hz : Nat.beq (P.cellsOf e) k with
      | false => simp [hz] at h
      | true =>
        have hz' : P.cellsOf e = k := Nat.eq_of_beq_eq_true hz
        simp only [hz0, hz, Bool.and_true, cond_true] at h
        obtain ⟨nh, h, h1, h2, h3⟩ := bound_sound h
        obtain ⟨nl, h, l1, l2, l3⟩ := bound_sound h
        refine ⟨_, h, fun ρ w g G hρ => ?_⟩
        obtain ⟨a, c, ey, hlc, hk0, hh⟩ := rep_sl (hx ▸ hρ x (hmem x (by simp)))
        have hfit := rep_fits (hx ▸ hρ x (hmem x (by simp)))
        have H := h3 ρ w g.hw g.bs env.length (fun y e => hρ y (hmem y (by simp [e])))
        have L := l3 ρ w g.hw g.bs env.length (fun y e => hρ y (hmem y (by simp [e])))
        have hnh : nh ≤ l.length := by cases hi with
          | none => rw [h1 rfl]; exact Nat.le_refl _
          | some z => exact h2 (by simp)
        have hnl : nl ≤ nh := by cases lo with
          | none => rw [l1 rfl]; omega
          | some z => exact l2 (by simp)
        have bnd : (Instr.sliceBounds true l.length c (lo.map ρ) (hi.map ρ) none).run P w = .ok (nl, nh, c) w := by
          cases hi with
          | none =>
            have := h1 rfl; subst this
            cases lo with
            | none => have := l1 rfl; subst this; simp [Instr.sliceBounds]
            | some y =>
              obtain ⟨k, m, ey, h0, hm, rfl⟩ := L y rfl
              simp [Instr.sliceBounds, ey, sliceBound_run h0 hm]
          | some z =>
            obtain ⟨k', m', ez, h0', hm', rfl⟩ := H z rfl
            have hmc : m' ≤ c := by omega
            cases lo with
            | none => have := l1 rfl; subst this; simp [Instr.sliceBounds, ez, sliceBound_run h0' hmc]
            | some y =>
              obtain ⟨k, m, ey, h0, hm, rfl⟩ := L y rfl
              simp [Instr.sliceBounds, ey, ez, sliceBound_run h0' hmc, sliceBound_run h0 hm]
        have run : (Instr.sliceAt t (.slice a l.length c) (lo.map ρ) (hi.map ρ) none).run P w = .ok (.slice (if c = nl then a else a.map (·.add (nl * k))) (nh - nl) (c - nl)) w := by
          simp only [Instr.sliceAt, Instr.slice, Sem.run_bind, run_und hu, Result.andThen_ok, bnd, run_size (info_of_und hz0), hz', Sem.run_pure]
        have len : ((l.take nh).drop nl).length = nh - nl := by simp; omega
        refine ⟨.slice (if c = nl then a else a.map (·.add (nl * k))) (nh - nl) (c - nl), by simp [execOp, ey, run], rep_sl_mk len.symm (by rw [len]; omega) ⟨hk0, by rw [len]; have := hfit.2; omega⟩ ?_⟩
        rcases hh with rfl | ⟨b, o, cs, rfl, hc, hr⟩
        · exact .inl (by simp)
        · by_cases hcn : c = nl
          · left
            apply List.eq_nil_of_length_eq_zero
            rw [len]; omega
          · right
            have hl := RepE.len hr
            have hlek : nl * k ≤ nh * k := Nat.mul_le_mul_right _ hnl
            have hlek' : nh * k ≤ l.length * k := Nat.mul_le_mul_right _ hnh
            refine ⟨b, o + nl * k, (cs.take (nh * k)).drop (nl * k), by simp [hcn, addr_add], (hc.take _).drop _ (by simp; omega), (hr.take nh).drop nl⟩
  · rename_i e i off k n c hm hu hx
    have hm' : mx = none := by cases mx <;> simp_all
    subst hm'
    cases hz0 : (P.underlying e).isSome with
    | false => simp [hz0] at h
    | true =>
      cases hz : Nat.beq (P.cellsOf e) k with
      | false => simp [hz] at h
      | true =>
        have hz' : P.cellsOf e = k := Nat.eq_of_beq_eq_true hz
        simp only [hz0, hz, Bool.and_true, cond_true] at h
        obtain ⟨nh, h, h1, h2, h3⟩ := bound_sound h
        obtain ⟨nl, h, l1, l2, l3⟩ := bound_sound h
        refine ⟨_, h, fun ρ w g G hρ => ?_⟩
        obtain ⟨b, hb, hk0, hnc, hc47, ey⟩ := rep_bs (hx ▸ hρ x (hmem x (by simp)))
        have H := h3 ρ w g.hw g.bs env.length (fun y e => hρ y (hmem y (by simp [e])))
        have L := l3 ρ w g.hw g.bs env.length (fun y e => hρ y (hmem y (by simp [e])))
        have hnh : nh ≤ c := by cases hi with
          | none => rw [h1 rfl]; exact hnc
          | some z => exact h2 (by simp)
        have hnl : nl ≤ nh := by cases lo with
          | none => rw [l1 rfl]; omega
          | some z => exact l2 (by simp)
        have bnd : (Instr.sliceBounds true n c (lo.map ρ) (hi.map ρ) none).run P w = .ok (nl, nh, c) w := by
          cases hi with
          | none =>
            have := h1 rfl; subst this
            cases lo with
            | none => have := l1 rfl; subst this; simp [Instr.sliceBounds]
            | some y =>
              obtain ⟨k, m, ey, h0, hm, rfl⟩ := L y rfl
              simp [Instr.sliceBounds, ey, sliceBound_run h0 hm]
          | some z =>
            obtain ⟨k', m', ez, h0', hm', rfl⟩ := H z rfl
            cases lo with
            | none => have := l1 rfl; subst this; simp [Instr.sliceBounds, ez, sliceBound_run h0' hm']
            | some y =>
              obtain ⟨k, m, ey, h0, hm, rfl⟩ := L y rfl
              simp [Instr.sliceBounds, ey, ez, sliceBound_run h0' hm', sliceBound_run h0 hm]
        have run : (Instr.sliceAt t (.slice (some ⟨b, off, none⟩) n c) (lo.map ρ) (hi.map ρ) none).run P w = .ok (.slice (some ⟨b, bif Nat.beq c nl then off else off + nl * k, none⟩) (nh - nl) (c - nl)) w := by
          simp only [Instr.sliceAt, Instr.slice, Sem.run_bind, run_und hu, Result.andThen_ok, bnd, run_size (info_of_und hz0), hz', Sem.run_pure]
          by_cases hcn : c = nl
          · have : Nat.beq c nl = true := by rw [hcn]; exact Nat.beq_refl _
            rw [if_pos hcn, this]; rfl
          · have : Nat.beq c nl = false := Bool.eq_false_iff.2 fun e => hcn (Nat.eq_of_beq_eq_true e)
            rw [if_neg hcn, this]; simp [addr_add]
        exact ⟨.slice (some ⟨b, bif Nat.beq c nl then off else off + nl * k, none⟩) (nh - nl) (c - nl), by simp [execOp, ey, run], rep_mk_leaf rfl rfl (by simp only [RepV]; exact ⟨b, hb, hk0, by omega, by omega, rfl⟩)⟩
  · rename_i e i off k n c hm hu hx
    have hm' : mx = none := by cases mx <;> simp_all
    subst hm'
    cases hz0 : (P.underlying e).isSome with
    | false => simp [hz0] at h
    | true =>
      cases hz : Nat.beq (P.cellsOf e) k with
      | false => simp [hz] at h
      | true =>
        have hz' : P.cellsOf e = k := Nat.eq_of_beq_eq_true hz
        simp only [hz0, hz, Bool.and_true, cond_true] at h
        obtain ⟨nh, h, h1, h2, h3⟩ := bound_sound h
        obtain ⟨nl, h, l1, l2, l3⟩ := bound_sound h
        refine ⟨_, h, fun ρ w g G hρ => ?_⟩
        obtain ⟨hib, b, hb, hk0, hnc, hc47, ey⟩ := rep_xs (hx ▸ hρ x (hmem x (by simp)))
        have H := h3 ρ w g.hw g.bs env.length (fun y e => hρ y (hmem y (by simp [e])))
        have L := l3 ρ w g.hw g.bs env.length (fun y e => hρ y (hmem y (by simp [e])))
        have hnh : nh ≤ c := by cases hi with
          | none => rw [h1 rfl]; exact hnc
          | some z => exact h2 (by simp)
        have hnl : nl ≤ nh := by cases lo with
          | none => rw [l1 rfl]; omega
          | some z => exact l2 (by simp)
        have bnd : (Instr.sliceBounds true n c (lo.map ρ) (hi.map ρ) none).run P w = .ok (nl, nh, c) w := by
          cases hi with
          | none =>
            have := h1 rfl; subst this
            cases lo with
            | none => have := l1 rfl; subst this; simp [Instr.sliceBounds]
            | some y =>
              obtain ⟨k, m, ey, h0, hm, rfl⟩ := L y rfl
              simp [Instr.sliceBounds, ey, sliceBound_run h0 hm]
          | some z =>
            obtain ⟨k', m', ez, h0', hm', rfl⟩ := H z rfl
            cases lo with
            | none => have := l1 rfl; subst this; simp [Instr.sliceBounds, ez, sliceBound_run h0' hm']
            | some y =>
              obtain ⟨k, m, ey, h0, hm, rfl⟩ := L y rfl
              simp [Instr.sliceBounds, ey, ez, sliceBound_run h0' hm', sliceBound_run h0 hm]
        have run : (Instr.sliceAt t (.slice (some ⟨b, off, none⟩) n c) (lo.map ρ) (hi.map ρ) none).run P w = .ok (.slice (some ⟨b, bif Nat.beq c nl then off else off + nl * k, none⟩) (nh - nl) (c - nl)) w := by
          simp only [Instr.sliceAt, Instr.slice, Sem.run_bind, run_und hu, Result.andThen_ok, bnd, run_size (info_of_und hz0), hz', Sem.run_pure]
          by_cases hcn : c = nl
          · have : Nat.beq c nl = true := by rw [hcn]; exact Nat.beq_refl _
            rw [if_pos hcn, this]; rfl
          · have : Nat.beq c nl = false := Bool.eq_false_iff.2 fun e => hcn (Nat.eq_of_beq_eq_true e)
            rw [if_neg hcn, this]; simp [addr_add]
        exact ⟨.slice (some ⟨b, bif Nat.beq c nl then off else off + nl * k, none⟩) (nh - nl) (c - nl), by simp [execOp, ey, run], rep_mk_leaf rfl rfl (by simp only [RepV]; exact ⟨hib, b, hb, hk0, by omega, by omega, rfl⟩)⟩
  · rename_i mo e k l hm hu hx
    obtain ⟨zm, rfl, hmo⟩ : ∃ zm, mx = some zm ∧ ρA zm = mo := by cases mx <;> simp_all
    subst hmo
    cases hi with
    | none => simp at h
    | some zh =>
    cases hz0 : (P.underlying e).isSome with
    | false => simp [hz0] at h
    | true =>
      cases hz : Nat.beq (P.cellsOf e) k with
      | false => simp [hz] at h
      | true =>
        have hz' : P.cellsOf e = k := Nat.eq_of_beq_eq_true hz
        simp only [hz0, hz, Option.map_some, Option.isSome_some, Bool.and_true, cond_true] at h
        obtain ⟨nm, h, _, m2, m3⟩ := bound_sound (x := some zm) h
        obtain ⟨nh, h, _, h2, h3⟩ := bound_sound (x := some zh) h
        obtain ⟨nl, h, l1, l2, l3⟩ := bound_sound h
        refine ⟨_, h, fun ρ w g G hρ => ?_⟩
        obtain ⟨a, c, ey, hlc, hk0, hh⟩ := rep_sl (hx ▸ hρ x (hmem x (by simp)))
        have hfit := rep_fits (hx ▸ hρ x (hmem x (by simp)))
        have M := m3 ρ w g.hw g.bs env.length (fun y e => hρ y (hmem y (by simp at e; simp [e])))
        have H := h3 ρ w g.hw g.bs env.length (fun y e => hρ y (hmem y (by simp at e; simp [e])))
        have L := l3 ρ w g.hw g.bs env.length (fun y e => hρ y (hmem y (by simp [e])))
        have hnm : nm ≤ l.length := m2 (by simp)
        have hnh : nh ≤ nm := h2 (by simp)
        have hnl : nl ≤ nh := by cases lo with
          | none => rw [l1 rfl]; omega
          | some z => exact l2 (by simp)
        have bnd : (Instr.sliceBounds true l.length c (lo.map ρ) (some (ρ zh)) (some (ρ zm))).run P w = .ok (nl, nh, nm) w := by
          obtain ⟨k'', m'', em, h0'', hm'', rfl⟩ := M zm rfl
          obtain ⟨k', m', ez, h0', hm', rfl⟩ := H zh rfl
          have hmc : m'' ≤ c := by omega
          cases lo with
          | none => have := l1 rfl; subst this; simp [Instr.sliceBounds, ez, em, sliceBound_run h0' hm', sliceBound_run h0'' hmc]
          | some y =>
            obtain ⟨k, m, ey, h0, hm, rfl⟩ := L y rfl
            simp [Instr.sliceBounds, ey, ez, em, sliceBound_run h0' hm', sliceBound_run h0'' hmc, sliceBound_run h0 hm]
        have run : (Instr.sliceAt t (.slice a l.length c) (lo.map ρ) (some (ρ zh)) (some (ρ zm))).run P w = .ok (.slice (if nm = nl then a else a.map (·.add (nl * k))) (nh - nl) (nm - nl)) w := by
          simp only [Instr.sliceAt, Instr.slice, Sem.run_bind, run_und hu, Result.andThen_ok, bnd, run_size (info_of_und hz0), hz', Sem.run_pure]
        have len : ((l.take nh).drop nl).length = nh - nl := by simp; omega
        refine ⟨.slice (if nm = nl then a else a.map (·.add (nl * k))) (nh - nl) (nm - nl), by simp [execOp, ey, run], rep_sl_mk len.symm (by rw [len]; omega) ⟨hk0, by rw [len]; have := hfit.2; omega⟩ ?_⟩
        rcases hh with rfl | ⟨b, o, cs, rfl, hc, hr⟩
        · exact .inl (by simp)
        · by_cases hcn : nm = nl
          · left
            apply List.eq_nil_of_length_eq_zero
            rw [len]; omega
          · right
            have hl := RepE.len hr
            have hlek : nl * k ≤ nh * k := Nat.mul_le_mul_right _ hnl
            have hlek' : nh * k ≤ l.length * k := Nat.mul_le_mul_right _ (by omega)
            refine ⟨b, o + nl * k, (cs.take (nh * k)).drop (nl * k), by simp [hcn, addr_add], (hc.take _).drop _ (by simp; omega), (hr.take nh).drop nl⟩
  · rename_i mo e i off k n c hm hu hx
    obtain ⟨zm, rfl, hmo⟩ : ∃ zm, mx = some zm ∧ ρA zm = mo := by cases mx <;> simp_all
    subst hmo
    cases hi with
    | none => simp at h
    | some zh =>
    cases hz0 : (P.underlying e).isSome with
    | false => simp [hz0] at h
    | true =>
      cases hz : Nat.beq (P.cellsOf e) k with
      | false => simp [hz] at h
      | true =>
        have hz' : P.cellsOf e = k := Nat.eq_of_beq_eq_true hz
        simp only [hz0, hz, Option.map_some, Option.isSome_some, Bool.and_true, cond_true] at h
        obtain ⟨nm, h, _, m2, m3⟩ := bound_sound (x := some zm) h
        obtain ⟨nh, h, _, h2, h3⟩ := bound_sound (x := some zh) h
        obtain ⟨nl, h, l1, l2, l3⟩ := bound_sound h
        refine ⟨_, h, fun ρ w g G hρ => ?_⟩
        obtain ⟨b, hb, hk0, hnc, hc47, ey⟩ := rep_bs (hx ▸ hρ x (hmem x (by simp)))
        have M := m3 ρ w g.hw g.bs env.length (fun y e => hρ y (hmem y (by simp at e; simp [e])))
        have H := h3 ρ w g.hw g.bs env.length (fun y e => hρ y (hmem y (by simp at e; simp [e])))
        have L := l3 ρ w g.hw g.bs env.length (fun y e => hρ y (hmem y (by simp [e])))
        have hnm : nm ≤ c := m2 (by simp)
        have hnh : nh ≤ nm := h2 (by simp)
        have hnl : nl ≤ nh := by cases lo with
          | none => rw [l1 rfl]; omega
          | some z => exact l2 (by simp)
        have bnd : (Instr.sliceBounds true n c (lo.map ρ) (some (ρ zh)) (some (ρ zm))).run P w = .ok (nl, nh, nm) w := by
          obtain ⟨k'', m'', em, h0'', hm'', rfl⟩ := M zm rfl
          obtain ⟨k', m', ez, h0', hm', rfl⟩ := H zh rfl
          cases lo with
          | none => have := l1 rfl; subst this; simp [Instr.sliceBounds, ez, em, sliceBound_run h0' hm', sliceBound_run h0'' hm'']
          | some y =>
            obtain ⟨k, m, ey, h0, hm, rfl⟩ := L y rfl
            simp [Instr.sliceBounds, ey, ez, em, sliceBound_run h0' hm', sliceBound_run h0'' hm'', sliceBound_run h0 hm]
        have run : (Instr.sliceAt t (.slice (some ⟨b, off, none⟩) n c) (lo.map ρ) (some (ρ zh)) (some (ρ zm))).run P w = .ok (.slice (some ⟨b, bif Nat.beq nm nl then off else off + nl * k, none⟩) (nh - nl) (nm - nl)) w := by
          simp only [Instr.sliceAt, Instr.slice, Sem.run_bind, run_und hu, Result.andThen_ok, bnd, run_size (info_of_und hz0), hz', Sem.run_pure]
          by_cases hcn : nm = nl
          · have : Nat.beq nm nl = true := by rw [hcn]; exact Nat.beq_refl _
            rw [if_pos hcn, this]; rfl
          · have : Nat.beq nm nl = false := Bool.eq_false_iff.2 fun e => hcn (Nat.eq_of_beq_eq_true e)
            rw [if_neg hcn, this]; simp [addr_add]
        exact ⟨.slice (some ⟨b, bif Nat.beq nm nl then off else off + nl * k, none⟩) (nh - nl) (nm - nl), by simp [execOp, ey, run], rep_mk_leaf rfl rfl (by simp only [RepV]; exact ⟨b, hb, hk0, by omega, by omega, rfl⟩)⟩
  · rename_i mo e i off k n c hm hu hx
    obtain ⟨zm, rfl, hmo⟩ : ∃ zm, mx = some zm ∧ ρA zm = mo := by cases mx <;> simp_all
    subst hmo
    cases hi with
    | none => simp at h
    | some zh =>
    cases hz0 : (P.underlying e).isSome with
    | false => simp [hz0] at h
    | true =>
      cases hz : Nat.beq (P.cellsOf e) k with
      | false => simp [hz] at h
      | true =>
        have hz' : P.cellsOf e = k := Nat.eq_of_beq_eq_true hz
        simp only [hz0, hz, Option.map_some, Option.isSome_some, Bool.and_true, cond_true] at h
        obtain ⟨nm, h, _, m2, m3⟩ := bound_sound (x := some zm) h
        obtain ⟨nh, h, _, h2, h3⟩ := bound_sound (x := some zh) h
        obtain ⟨nl, h, l1, l2, l3⟩ := bound_sound h
        refine ⟨_, h, fun ρ w g G hρ => ?_⟩
        obtain ⟨hib, b, hb, hk0, hnc, hc47, ey⟩ := rep_xs (hx ▸ hρ x (hmem x (by simp)))
        have M := m3 ρ w g.hw g.bs env.length (fun y e => hρ y (hmem y (by simp at e; simp [e])))
        have H := h3 ρ w g.hw g.bs env.length (fun y e => hρ y (hmem y (by simp at e; simp [e])))
        have L := l3 ρ w g.hw g.bs env.length (fun y e => hρ y (hmem y (by simp [e])))
        have hnm : nm ≤ c := m2 (by simp)
        have hnh : nh ≤ nm := h2 (by simp)
        have hnl : nl ≤ nh := by cases lo with
          | none => rw [l1 rfl]; omega
          | some z => exact l2 (by simp)
        have bnd : (Instr.sliceBounds true n c (lo.map ρ) (some (ρ zh)) (some (ρ zm))).run P w = .ok (nl, nh, nm) w := by
          obtain ⟨k'', m'', em, h0'', hm'', rfl⟩ := M zm rfl
          obtain ⟨k', m', ez, h0', hm', rfl⟩ := H zh rfl
          cases lo with
          | none => have := l1 rfl; subst this; simp [Instr.sliceBounds, ez, em, sliceBound_run h0' hm', sliceBound_run h0'' hm'']
          | some y =>
            obtain ⟨k, m, ey, h0, hm, rfl⟩ := L y rfl
            simp [Instr.sliceBounds, ey, ez, em, sliceBound_run h0' hm', sliceBound_run h0'' hm'', sliceBound_run h0 hm]
        have run : (Instr.sliceAt t (.slice (some ⟨b, off, none⟩) n c) (lo.map ρ) (some (ρ zh)) (some (ρ zm))).run P w = .ok (.slice (some ⟨b, bif Nat.beq nm nl then off else off + nl * k, none⟩) (nh - nl) (nm - nl)) w := by
          simp only [Instr.sliceAt, Instr.slice, Sem.run_bind, run_und hu, Result.andThen_ok, bnd, run_size (info_of_und hz0), hz', Sem.run_pure]
          by_cases hcn : nm = nl
          · have : Nat.beq nm nl = true := by rw [hcn]; exact Nat.beq_refl _
            rw [if_pos hcn, this]; rfl
          · have : Nat.beq nm nl = false := Bool.eq_false_iff.2 fun e => hcn (Nat.eq_of_beq_eq_true e)
            rw [if_neg hcn, this]; simp [addr_add]
        exact ⟨.slice (some ⟨b, bif Nat.beq nm nl then off else off + nl * k, none⟩) (nh - nl) (nm - nl), by simp [execOp, ey, run], rep_mk_leaf rfl rfl (by simp only [RepV]; exact ⟨hib, b, hb, hk0, by omega, by omega, rfl⟩)⟩
  · rename_i e hm hu hx
    have hm' : mx = none := by cases mx <;> simp_all
    subst hm'
    cases hz0 : (P.underlying e).isSome with
    | false => simp [hz0] at h
    | true =>
      simp only [hz0, cond_true] at h
      obtain ⟨nh, h, h1, h2, h3⟩ := bound_sound h
      obtain ⟨nl, h, l1, l2, l3⟩ := bound_sound h
      refine ⟨_, h, fun ρ w g G hρ => ⟨_, ?_, rep_v_mk rfl⟩⟩
      have ey := (rep_v (hx ▸ hρ x (hmem x (by simp)))).1
      have H := h3 ρ w g.hw g.bs env.length (fun y e => hρ y (hmem y (by simp [e])))
      have L := l3 ρ w g.hw g.bs env.length (fun y e => hρ y (hmem y (by simp [e])))
      have hnh : nh = 0 := by cases hi with
        | none => exact h1 rfl
        | some z => have := h2 (by simp); omega
      have hnl : nl = 0 := by cases lo with
        | none => exact l1 rfl
        | some z => have := l2 (by simp); omega
      have bnd : (Instr.sliceBounds true 0 0 (lo.map ρ) (hi.map ρ) none).run P w = .ok (0, 0, 0) w := by
        cases hi with
        | none =>
          cases lo with
          | none => simp [Instr.sliceBounds]
          | some y =>
            obtain ⟨k, m, ey, h0, hm, hh⟩ := L y rfl
            obtain rfl : m = 0 := by omega
            simp [Instr.sliceBounds, ey, sliceBound_run]
        | some z =>
          obtain ⟨k', m', ez, h0', hm', hh'⟩ := H z rfl
          obtain rfl : m' = 0 := by omega
          cases lo with
          | none => simp [Instr.sliceBounds, ez, sliceBound_run]
          | some y =>
            obtain ⟨k, m, ey, h0, hm, hh⟩ := L y rfl
            obtain rfl : m = 0 := by omega
            simp [Instr.sliceBounds, ey, ez, sliceBound_run]
      have run : (Instr.sliceAt t (.slice none 0 0) (lo.map ρ) (hi.map ρ) none).run P w = .ok (.slice none 0 0) w := by
        simp only [Instr.sliceAt, Instr.slice, Sem.run_bind, run_und hu, Result.andThen_ok, bnd, run_size (info_of_und hz0), Sem.run_pure]
        simp
      simp [execOp, ey, run]
  · exact h.elim

theorem len_sound {t : TypeId} {x : Operand} (h : lenA P own env t (ρA x) K) : ∃ v, K v ∧ PureAt P env own ρA ⟨dst, .call ⟨.builtin .len, #[x], #[t]⟩, type, pos, after, guard⟩ v := by
  have hmem : x ∈ (Op.call ⟨.builtin .len, #[x], #[t]⟩).operands := by simp [Op.operands, Call.operands]
  have main : ∀ (v : AV) (u : (Operand → Value) → World → Gh → Value), K v → (∀ (ρ : Operand → Value) w g, Good w g (env ++ own) env.length → Rep w g.hw g.bs env.length (ρA x) (ρ x) → (Builtin.len_ #[t] type #[ρ x]).run P w = .ok (u ρ w g) w ∧ Rep w g.hw g.bs env.length v (u ρ w g)) →
      ∃ v, K v ∧ PureAt P env own ρA ⟨dst, .call ⟨.builtin .len, #[x], #[t]⟩, type, pos, after, guard⟩ v := by
    intro v u hk hr
    refine ⟨v, hk, fun ρ w g G hρ => ⟨u ρ w g, ?_, (hr ρ w g G (hρ x hmem)).2⟩⟩
    have := (hr ρ w g G (hρ x hmem)).1
    simp [execOp, resolve, invoke, builtin, this]
  unfold lenA at h
  split at h
  · rename_i s hu hx
    refine main _ (fun _ _ _ => goInt s.size) h fun ρ w g G hr => ?_
    have e1 := (rep_v (hx ▸ hr)).1
    exact ⟨by simp [Builtin.len_, e1, run_und hu], rep_int⟩
  · rename_i e k l hu hx
    refine main _ (fun _ _ _ => goInt l.length) h fun ρ w g G hr => ?_
    obtain ⟨a, c, ey, _⟩ := rep_sl (hx ▸ hr)
    exact ⟨by simp [Builtin.len_, ey, run_und hu], rep_int⟩
  · rename_i e n c hu hx
    refine main _ (fun _ _ _ => goInt n) h fun ρ w g G hr => ?_
    have e1 := (rep_v (hx ▸ hr)).1
    exact ⟨by simp [Builtin.len_, e1, run_und hu], rep_int⟩
  · rename_i e i off k n c hu hx
    refine main _ (fun _ _ _ => goInt n) h fun ρ w g G hr => ?_
    obtain ⟨b, hb, _, _, _, ey⟩ := rep_bs (hx ▸ hr)
    exact ⟨by simp [Builtin.len_, ey, run_und hu], rep_int⟩
  · rename_i e i off k n c hu hx
    refine main _ (fun _ _ _ => goInt n) h fun ρ w g G hr => ?_
    obtain ⟨_, b, hb, _, _, _, ey⟩ := rep_xs (hx ▸ hr)
    exact ⟨by simp [Builtin.len_, ey, run_und hu], rep_int⟩
  · rename_i k e i hu hx
    split at h
    · rename_i l hl
      refine main _ (fun _ _ _ => goInt l.length) h fun ρ w g G hr => ?_
      obtain ⟨b, hb, e1⟩ := rep_mo (hx ▸ hr)
      obtain ⟨es, n, hheap, hm⟩ := G.own_box hl hb
      have hlen : es.size = l.length := by
        have : ∀ (l : List (ByteArray × AV)) (es : List MapEntry), RepM w g.hw l es → es.length = l.length := by
          intro l
          induction l with
          | nil => intro es h; simp only [RepM] at h; subst h; rfl
          | cons p l ih => intro es h; obtain ⟨k, x⟩ := p; simp only [RepM] at h; obtain ⟨e, es', rfl, _, _, h⟩ := h; simp [ih _ h]
        simpa using this l es.toList hm
      exact ⟨by simp [Builtin.len_, e1, run_und hu, getObj, Sem.run, hheap, hlen], rep_int⟩
    · exact h.elim
  · rename_i k e i hu hx
    split at h
    · rename_i l hl
      refine main _ (fun _ _ _ => goInt l.length) h fun ρ w g G hr => ?_
      obtain ⟨_, b, hb, e1⟩ := rep_mx (hx ▸ hr)
      obtain ⟨es, n, hheap, hm⟩ := G.env_box hl hb
      have hlen : es.size = l.length := by
        have : ∀ (l : List (ByteArray × AV)) (es : List MapEntry), RepM w g.hw l es → es.length = l.length := by
          intro l
          induction l with
          | nil => intro es h; simp only [RepM] at h; subst h; rfl
          | cons p l ih => intro es h; obtain ⟨k, x⟩ := p; simp only [RepM] at h; obtain ⟨e, es', rfl, _, _, h⟩ := h; simp [ih _ h]
        simpa using this l es.toList hm
      exact ⟨by simp [Builtin.len_, e1, run_und hu, getObj, Sem.run, hheap, hlen], rep_int⟩
    · exact h.elim
  · exact h.elim

theorem cap_sound {t : TypeId} {x : Operand} (h : capA P t (ρA x) K) : ∃ v, K v ∧ PureAt P env own ρA ⟨dst, .call ⟨.builtin .cap, #[x], #[t]⟩, type, pos, after, guard⟩ v := by
  have hmem : x ∈ (Op.call ⟨.builtin .cap, #[x], #[t]⟩).operands := by simp [Op.operands, Call.operands]
  unfold capA at h
  split at h
  · rename_i e i off k n c hu hx
    refine ⟨_, h, fun ρ w g G hρ => ⟨goInt c, ?_, rep_int⟩⟩
    obtain ⟨b, hb, _, _, _, ey⟩ := rep_bs (hx ▸ hρ x hmem)
    simp [execOp, resolve, invoke, builtin, ey, Builtin.cap_, run_und hu]
  · rename_i e i off k n c hu hx
    refine ⟨_, h, fun ρ w g G hρ => ⟨goInt c, ?_, rep_int⟩⟩
    obtain ⟨_, b, hb, _, _, _, ey⟩ := rep_xs (hx ▸ hρ x hmem)
    simp [execOp, resolve, invoke, builtin, ey, Builtin.cap_, run_und hu]
  · rename_i e n c hu hx
    refine ⟨_, h, fun ρ w g G hρ => ⟨goInt c, ?_, rep_int⟩⟩
    have ey := (rep_v (hx ▸ hρ x hmem)).1
    simp [execOp, resolve, invoke, builtin, ey, Builtin.cap_, run_und hu]
  · exact h.elim
theorem min_sound {ts : Array TypeId} {x y : Operand} (h : min2A (ρA x) (ρA y) K) : ∃ v, K v ∧ PureAt P env own ρA ⟨dst, .call ⟨.builtin .min, #[x, y], ts⟩, type, pos, after, guard⟩ v := by
  unfold min2A at h
  split at h
  · rename_i k a k' b hx hy
    refine ⟨_, h, fun ρ w g G hρ => ⟨_, ?_, rep_int⟩⟩
    have e1 := (rep_v (hx ▸ hρ x (by simp [Op.operands, Call.operands]))).1
    have e2 := (rep_v (hy ▸ hρ y (by simp [Op.operands, Call.operands]))).1
    simp [execOp, resolve, invoke, builtin, e1, e2, Builtin.min_, Builtin.min2]
  · exact h.elim
theorem max_sound {ts : Array TypeId} {x y : Operand} (h : max2A (ρA x) (ρA y) K) : ∃ v, K v ∧ PureAt P env own ρA ⟨dst, .call ⟨.builtin .max, #[x, y], ts⟩, type, pos, after, guard⟩ v := by
  unfold max2A at h
  split at h
  · rename_i k a k' b hx hy
    refine ⟨_, h, fun ρ w g G hρ => ⟨_, ?_, rep_int⟩⟩
    have e1 := (rep_v (hx ▸ hρ x (by simp [Op.operands, Call.operands]))).1
    have e2 := (rep_v (hy ▸ hρ y (by simp [Op.operands, Call.operands]))).1
    simp [execOp, resolve, invoke, builtin, e1, e2, Builtin.max_, Builtin.max2]
  · exact h.elim

theorem findNow_getM {w : World} {hw : Hw} {s : ByteArray} : ∀ (l : List (ByteArray × AV)) (es : List MapEntry) (i : Nat), RepM w hw l es →
    (∃ x j e, getM l s = some x ∧ Instr.findNow .string (.string s) es i = some (some (i + j, e.val)) ∧ es[j]? = some e ∧ e.key = .string s ∧ Rep1 w hw [] 0 x e.val) ∨ (getM l s = none ∧ Instr.findNow .string (.string s) es i = some none)
  | [], _, _, h => by simp only [RepM] at h; subst h; exact .inr ⟨rfl, rfl⟩
  | (k, x) :: l, _, i, h => by
    simp only [RepM] at h
    obtain ⟨e, es, rfl, hk, hx, hr⟩ := h
    by_cases hs : s = k
    · subst hs
      have hb : (s == s) = true := (bytes_beq s s).2 rfl
      exact .inl ⟨x, 0, e, by simp [getM], by simp [Instr.findNow, hk, Instr.sameNow, hb], rfl, hk, hx⟩
    · have hb : (s == k) = false := Bool.eq_false_iff.2 fun h => hs ((bytes_beq s k).1 h)
      rcases findNow_getM l es (i + 1) hr with ⟨y, j, e', h1, h2, h3, h4, h5⟩ | ⟨h1, h2⟩
      · exact .inl ⟨y, j + 1, e', by simp [getM, hs, h1], by simp only [Instr.findNow, hk, Instr.sameNow, hb, h2, show i + 1 + j = i + (j + 1) from by omega], by simpa using h3, h4, h5⟩
      · exact .inr ⟨by simp [getM, hs, h1], by simp only [Instr.findNow, hk, Instr.sameNow, hb, h2]⟩

theorem rep_of {w : World} {hw : Hw} {bs : List Nat} {base : Nat} {x : AV} {y : Value} (h : Rep1 w hw bs base x y) : Rep w hw bs base x y := by
  cases x <;> first | exact h | (rcases h with h | ⟨h, _⟩ <;> first | (cases h; done) | (simp only [RepV] at h))
theorem AV.cst_tup {z : Value} : ∀ l, cst z ≠ .tup l := by intro l; cases z <;> simp [cst]

theorem map_reads {m : AV} {l : List (ByteArray × AV)} {w : World} {g : Gh} {y : Value} (hm : mapOf env own m = some l) (G : Good w g (env ++ own) env.length) (hr : Rep w g.hw g.bs env.length m y) :
    (y = .map none ∧ l = []) ∨ ∃ b es n, y = .map (some b) ∧ w.heap[b]? = some (.map es n) ∧ RepM w g.hw l es.toList := by
  unfold mapOf at hm
  split at hm
  · split at hm
    · rename_i i l' hl
      cases hm
      obtain ⟨b, hb, e⟩ := rep_mo hr
      obtain ⟨es, n, h1, h2⟩ := G.own_box hl hb
      exact .inr ⟨b, es, n, e, h1, h2⟩
    · cases hm
  · split at hm
    · rename_i i l' hl
      cases hm
      obtain ⟨_, b, hb, e⟩ := rep_mx hr
      obtain ⟨es, n, h1, h2⟩ := G.env_box hl hb
      exact .inr ⟨b, es, n, e, h1, h2⟩
    · cases hm
  · cases hm
    exact .inl ⟨(rep_v hr).1, rfl⟩
  · cases hm

theorem lookup_sound {t : TypeId} {m k : Operand} {ok : Bool} (h : lookupA P env own t (ρA m) (ρA k) ok K) : ∃ v, K v ∧ PureAt P env own ρA ⟨dst, .lookup t m k ok, type, pos, after, guard⟩ v := by
  unfold lookupA at h
  split at h
  · rename_i kt et s hu hk
    split at h
    · rename_i i hkt hi
      split at h
      · rename_i z hz
        cases hc : (okTmp 0 (.const z) && !VisTup z) with
        | false => rw [hc] at h; exact h.elim
        | true =>
          rw [hc] at h
          simp only [cond_true] at h
          simp only [Bool.and_eq_true] at hc
          obtain ⟨l, hm, h⟩ := h
          have run : ∀ (ρ : Operand → Value) (w : World) (g : Gh), Good w g (env ++ own) env.length → Rep w g.hw g.bs env.length (ρA m) (ρ m) → ρ k = .string s →
              (∃ x e, getM l s = some x ∧ Rep1 w g.hw [] 0 x e ∧ (Instr.lookup t (ρ m) (ρ k) ok).run P w = .ok (if ok then .tuple #[e, .bool true] else e) w) ∨
              (getM l s = none ∧ (Instr.lookup t (ρ m) (ρ k) ok).run P w = .ok (if ok then .tuple #[z, .bool false] else z) w) := by
            intro ρ w g G hr hks
            have hzv : (zeroValue et).run P w = .ok z w := by simp [zeroValue, typeInfo, hi, hz]
            have hck : ∀ b, (Instr.checkKey b 10000 kt (.string s)).run P w = .ok () w := fun b => run_checkKey hkt (by simp [IsKey]) b 9999
            rcases map_reads hm G hr with ⟨e1, rfl⟩ | ⟨b, es, n, e1, hheap, hM⟩
            · refine .inr ⟨rfl, ?_⟩
              have hf : (Instr.findKey kt (.string s) (#[] : Array MapEntry).toList).run P w = .ok none w := run_findKey hkt rfl
              simp only [Instr.lookup, e1, hks, Sem.run_bind, run_und hu, Result.andThen_ok, Sem.run_pure, hck, hf, hzv]
            · rcases findNow_getM (s := s) l es.toList 0 hM with ⟨x, j, e, h1, h2, _, _, h5⟩ | ⟨h1, h2⟩
              · refine .inl ⟨x, e.val, h1, h5, ?_⟩
                have hf := run_findKey (w := w) hkt h2
                simp only [Instr.lookup, e1, hks, Sem.run_bind, run_und hu, Result.andThen_ok, Sem.run_pure, hck, hf, Go.MapKept.run_getObj_map hheap]
              · refine .inr ⟨h1, ?_⟩
                have hf := run_findKey (w := w) hkt h2
                simp only [Instr.lookup, e1, hks, Sem.run_bind, run_und hu, Result.andThen_ok, Sem.run_pure, hck, hf, Go.MapKept.run_getObj_map hheap, hzv]
          have hmem1 : m ∈ (Op.lookup t m k ok).operands := by simp [Op.operands]
          have hmem2 : k ∈ (Op.lookup t m k ok).operands := by simp [Op.operands]
          cases hg : getM l s with
          | some x =>
            refine ⟨_, h.1 x hg, fun ρ w g G hρ => ?_⟩
            rcases run ρ w g G (hρ m hmem1) (rep_v (hk ▸ hρ k hmem2)).1 with ⟨x', e, h1, h2, h3⟩ | ⟨h1, _⟩
            · rw [hg] at h1; cases h1
              refine ⟨if ok then .tuple #[e, .bool true] else e, by simp only [execOp, Sem.run_bind, h3, Result.andThen_ok, Sem.run_pure], ?_⟩
              cases ok with
              | false => exact rep_of h2.lift
              | true =>
                refine ⟨_, rfl, ?_⟩
                simp only [RepT]
                exact ⟨_, _, rfl, h2.lift, _, _, rfl, rep_bool, rfl⟩
            · rw [hg] at h1; cases h1
          | none =>
            refine ⟨_, h.2 hg, fun ρ w g G hρ => ?_⟩
            rcases run ρ w g G (hρ m hmem1) (rep_v (hk ▸ hρ k hmem2)).1 with ⟨x', e, h1, _⟩ | ⟨h1, h3⟩
            · rw [hg] at h1; cases h1
            · refine ⟨if ok then .tuple #[z, .bool false] else z, by simp only [execOp, Sem.run_bind, h3, Result.andThen_ok, Sem.run_pure], ?_⟩
              have hz' : Rep w g.hw g.bs env.length (cst z) z := cst_rep z hc.1
              cases ok with
              | false => exact hz'
              | true =>
                refine ⟨_, rfl, ?_⟩
                simp only [RepT]
                refine ⟨_, _, rfl, ?_, _, _, rfl, rep_bool, rfl⟩
                cases hx : cst z <;> rw [hx] at hz' <;> first | exact hz' | exact absurd hx (AV.cst_tup _)
      · exact h.elim
    · exact h.elim
  · exact h.elim
end
end Go.Ev
end
section
/- Written by this session: the steps of a frame of trees. Conditions: none beyond those in each statement. -/
namespace Go.Ev
open Go

theorem rep_isLeaf {w : World} {hw : Hw} {bs : List Nat} {base : Nat} {x : AV} {y : Value} (hl : x.isLeaf = true) (h : Rep w hw bs base x y) : RepV w hw bs base x [y] ∧ x.isAgg = false ∧ y.oneCell' = true := by
  have hleaf : x.isAgg = false ∧ x ≠ .top ∧ ∀ l, x ≠ .tup l := by
    cases x <;> simp_all [AV.isLeaf, AV.isAgg]
  obtain ⟨h2, h3⟩ := rep_leaf hleaf.1 hleaf.2.1 hleaf.2.2 h
  refine ⟨h2, hleaf.1, ?_⟩
  cases x <;> first
    | (simp only [RepV] at h2; done)
    | (simp [AV.isLeaf] at hl; done)
    | (simp only [RepV] at h2; simp_all [Value.oneCell', AV.isLeaf]; done)
    | (simp only [RepV] at h2; obtain ⟨_, _, _, _, _, e⟩ := h2; cases e; rfl)
    | (simp only [RepV] at h2; obtain ⟨_, _, _, _, _, _, e⟩ := h2; cases e; rfl)
    | (simp only [RepV] at h2; obtain ⟨_, _, e, _⟩ := h2; simp at e; subst e; rfl)
    | (simp only [RepV] at h2; obtain ⟨_, _, e⟩ := h2; simp at e; subst e; rfl)
    | (simp only [RepV] at h2; obtain ⟨_, _, _, e⟩ := h2; simp at e; subst e; rfl)
    | (simp only [RepV] at h2; obtain ⟨_, e, _⟩ := h2; simp at e; subst e; rfl)
    | (simp only [RepV] at h2; obtain ⟨_, _, _, e, _⟩ := h2; simp at e; subst e; rfl)

theorem bv_rep {w : World} {hw : Hw} {bs : List Nat} {base : Nat} {x : AV} {u : Value} {b v : Bool} (h : bv x = some (b, v)) (hb : b = true) (hr : Rep w hw bs base x u) : u = .bool v := by
  unfold bv at h
  split at h
  · cases h; exact (rep_v hr).1
  · cases h
    subst hb
    obtain ⟨h1, _⟩ := rep_leaf rfl (by simp) (by simp) hr
    simp only [RepV] at h1
    obtain ⟨z, e, _, r⟩ := h1
    simp only [List.cons.injEq, and_true] at e
    have := (r trivial).2
    simp only [List.cons.injEq, and_true] at this
    rw [e, this]
  · cases h

theorem pureA_sound {P : Program} {env own : List Bx} {ρA : Operand → AV} {o : Oper} {K : AV → Prop} (h : pureA P env own ρA o K) : ∃ v, K v ∧ PureAt P env own ρA o v := by
  obtain ⟨dst, op, type, pos, after, guard⟩ := o
  have copy : ∀ x, (op = .move x ∨ op = .assign x) → K (ρA x) → ∃ v, K v ∧ PureAt P env own ρA ⟨dst, op, type, pos, after, guard⟩ v := by
    intro x hop hk
    refine ⟨_, hk, fun ρ w g G hρ => ⟨ρ x, ?_, hρ x ?_⟩⟩
    · rcases hop with rfl | rfl <;> simp [execOp]
    · rcases hop with rfl | rfl <;> simp [Op.operands]
  unfold pureA at h
  cases op <;> simp only at h <;> try exact h.elim
  case move x => exact copy x (.inl rfl) h
  case assign x => exact copy x (.inr rfl) h
  case pick c a b =>
    split at h
    · rename_i bc t b1 x b2 y hc ha hb
      obtain ⟨k1, k2, k3, hk⟩ := h
      refine ⟨_, hk, fun ρ w g G hρ => ⟨.bool (bif t then x else y), ?_, rep_bool⟩⟩
      have ec := bv_rep hc k1 (hρ c (by simp [Op.operands]))
      cases t with
      | true => simp [execOp, ec, asBool, bv_rep ha (k2 rfl) (hρ a (by simp [Op.operands]))]
      | false => simp [execOp, ec, asBool, bv_rep hb (k3 rfl) (hρ b (by simp [Op.operands]))]
    split at h
    · rename_i t hc
      cases t with
      | true =>
        refine ⟨_, h.1 rfl, fun ρ w g G hρ => ⟨ρ a, ?_, hρ a (by simp [Op.operands])⟩⟩
        have e := (rep_v (hc ▸ hρ c (by simp [Op.operands]))).1
        simp [execOp, e, asBool]
      | false =>
        refine ⟨_, h.2 rfl, fun ρ w g G hρ => ⟨ρ b, ?_, hρ b (by simp [Op.operands])⟩⟩
        have e := (rep_v (hc ▸ hρ c (by simp [Op.operands]))).1
        simp [execOp, e, asBool]
    · exact h.elim
  case binOp => exact bin_sound h
  case unOp => exact un_sound h
  case convert => exact conv_sound h
  case fieldAddr => exact fieldAddr_sound h
  case field => exact field_sound h
  case index => exact index_sound h
  case indexAddr => exact indexAddr_sound h
  case slice => exact slice_sound h
  case load => exact load_sound h
  case lookup => exact lookup_sound h
  case nilCheck x =>
    have main : ∀ v, ρA x = v → K v → (∀ (w : World) hw bs base y, Rep w hw bs base v y → ∃ a, y = .pointer (some a)) → ∃ v, K v ∧ PureAt P env own ρA ⟨dst, .nilCheck x, type, pos, after, guard⟩ v := by
      intro v hx hk hp
      refine ⟨v, hk, fun ρ w g G hρ => ?_⟩
      have hr := hx ▸ hρ x (by simp [Op.operands])
      obtain ⟨a, e⟩ := hp _ _ _ _ _ hr
      exact ⟨ρ x, by simp [execOp, e], hr⟩
    split at h
    · rename_i hx; exact main _ hx h fun w hw bs base y hr => by obtain ⟨b, _, e⟩ := rep_bp hr; exact ⟨_, e⟩
    · rename_i hx; exact main _ hx h fun w hw bs base y hr => by obtain ⟨_, b, _, e⟩ := rep_xp hr; exact ⟨_, e⟩
    · rename_i hx; exact main _ hx h fun w hw bs base y hr => by obtain ⟨b, o, cs, e, _⟩ := rep_ep hr; exact ⟨_, e⟩
    · exact h.elim
  case extract x i =>
    split at h
    · rename_i l hx
      split at h
      · rename_i y hy
        refine ⟨y, h, fun ρ w g G hρ => ?_⟩
        obtain ⟨vs, e, hr⟩ : Rep w g.hw g.bs env.length (.tup l) (ρ x) := hx ▸ hρ x (by simp [Op.operands])
        have : ∀ (l : List AV) (vs : List Value) (i : Nat), RepT w g.hw g.bs env.length l vs → l[i]? = some y → ∃ v, vs[i]? = some v ∧ Rep1 w g.hw g.bs env.length y v := by
          intro l
          induction l with
          | nil => intro vs i _ h; simp at h
          | cons a l ih =>
            intro vs i hr hi
            simp only [RepT] at hr
            obtain ⟨v, vs', rfl, h1, h2⟩ := hr
            cases i with
            | zero => simp at hi; subst hi; exact ⟨v, rfl, h1⟩
            | succ i => simp at hi; simpa using ih _ _ h2 hi
        obtain ⟨v, hv, h1⟩ := this l vs.toList i hr hy
        have hv' : vs[i]? = some v := by simpa using hv
        refine ⟨v, by simp [execOp, e, Instr.extract, hv'], ?_⟩
        cases y with
        | tup l' => rcases h1 with h1 | ⟨h1, _⟩ <;> first | (cases h1; done) | (simp only [RepV] at h1)
        | _ => exact h1
      · exact h.elim
    · exact h.elim
  case makeInterface t x =>
    have main : ∀ v, ρA x = v → v.plainLeaf = true ∨ v.isAgg = true → (∀ d, P.underlying t = some d → (∀ ms, d ≠ .interface ms) → K (.ifc t v) → True → (∀ (w : World) hw bs base y, Rep w hw bs base v y → RepV w hw [] 0 v y.cells.toList ∧ VisAgg y = v.isAgg) → ∃ v, K v ∧ PureAt P env own ρA ⟨dst, .makeInterface t x, type, pos, after, guard⟩ v) := by
      intro v hx hv d hd hne hk _ hp
      refine ⟨_, hk, fun ρ w g G hρ => ⟨.iface t (ρ x), ?_, ?_⟩⟩
      · simp only [execOp, Sem.run_bind, Instr.makeInterface, run_und hd, Result.andThen_ok]
        cases d <;> first | (exact absurd rfl (hne _)) | rfl
      · obtain ⟨q1, q2⟩ := hp w g.hw g.bs env.length (ρ x) (hx ▸ hρ x (by simp [Op.operands]))
        exact rep_mk_leaf rfl rfl (by simp only [RepV]; exact ⟨_, rfl, q1, q2⟩)
    split at h
    · exact h.elim
    · rename_i d y hne hd hx
      cases ho : y.oneCell' with
      | false => rw [ho] at h; exact h.elim
      | true =>
        rw [ho] at h
        refine main _ hx (.inl rfl) d hd (fun ms e => hne ms (by rw [e])) h trivial fun w hw bs base u hr => ?_
        obtain ⟨rfl, hv⟩ := rep_v hr
        exact ⟨by rw [cells_toList_of hv]; simp [RepV], by rw [hv]; rfl⟩
    · rename_i d k l hne hd hx
      refine main _ hx (.inl rfl) d hd (fun ms e => hne ms (by rw [e])) h trivial fun w hw bs base u hr => ?_
      obtain ⟨q1, q2⟩ := rep_leaf rfl (by simp) (by simp) hr
      rw [cells_toList_of q2]
      exact ⟨by simpa only [RepV] using q1, by rw [q2]; rfl⟩
    · rename_i d l hne hd hx
      cases ho : pfLeaves l with
      | false => rw [ho] at h; exact h.elim
      | true =>
        rw [ho] at h
        refine main _ hx (.inr rfl) d hd (fun ms e => hne ms (by rw [e])) h trivial fun w hw bs base u hr => ?_
        obtain ⟨cs, rfl, hL⟩ := rep_agg hr
        refine ⟨?_, rfl⟩
        simp only [RepV, Value.cells]
        have all : ∀ (l : List AV) (vs : List Value), pfLeaves l = true → RepL w hw bs base l vs → RepL w hw [] 0 l vs := by
          intro l
          induction l with
          | nil => intro vs _ h; simpa only [RepL] using h
          | cons a l ih =>
            intro vs hp h
            simp only [pfLeaves, List.all_cons, Bool.and_eq_true] at hp
            simp only [RepL] at h ⊢
            obtain ⟨v, vs', e, q, r⟩ := h
            refine ⟨v, vs', e, ⟨?_, q.2⟩, ih _ hp.2 r⟩
            cases a <;> first | (simpa only [RepV] using q.1) | (have := hp.1; simp [AV.plainLeaf] at this)
        exact all l cs.toList ho hL
    · exact h.elim
  case makeFunc fn first cap =>
    cases h1 : ((first.toList.map ρA).all AV.isLeaf && (cap.toList.map ρA).all AV.isLeaf) with
    | false => simp only [h1, cond_false] at h
    | true =>
      simp only [h1, cond_true] at h
      simp only [Bool.and_eq_true] at h1
      refine ⟨_, h, fun ρ w g G hρ => ⟨.func fn (first.map ρ) (cap.map ρ), by simp [execOp, Instr.makeFunc], rep_mk_leaf rfl rfl ?_⟩⟩
      have all : ∀ (l : List Operand), (∀ x ∈ l, x ∈ first.toList ∨ x ∈ cap.toList) → (l.map ρA).all AV.isLeaf = true → RepL w g.hw g.bs env.length (l.map ρA) (l.map ρ) := by
        intro l
        induction l with
        | nil => intro _ _; simp [RepL]
        | cons x l ih =>
          intro hm hl
          simp only [List.map_cons, List.all_cons, Bool.and_eq_true] at hl
          simp only [List.map_cons, RepL]
          have hr := hρ x (by simp only [Op.operands, Array.mem_append]; rcases hm x (by simp) with h | h; exact .inl (by simpa using h); exact .inr (by simpa using h))
          obtain ⟨h2, h3, h4⟩ := rep_isLeaf hl.1 hr
          exact ⟨_, _, rfl, ⟨h2, h3, h4⟩, ih (fun y hy => hm y (by simp [hy])) hl.2⟩
      simp only [RepV]
      exact ⟨_, _, rfl, by simpa using all first.toList (fun x h => .inl h) h1.1, by simpa using all cap.toList (fun x h => .inr h) h1.2⟩
  case call c =>
    obtain ⟨callee, args, argTypes⟩ := c
    split at h
    · rename_i x t hc ha ht
      have : callee = .builtin .len := hc
      subst this
      have ea : args = #[x] := by apply Array.toList_inj.1; simpa using ha
      have et : argTypes = #[t] := by apply Array.toList_inj.1; simpa using ht
      subst ea et
      exact len_sound h
    · rename_i x t hc ha ht
      have : callee = .builtin .cap := hc
      subst this
      have ea : args = #[x] := by apply Array.toList_inj.1; simpa using ha
      have et : argTypes = #[t] := by apply Array.toList_inj.1; simpa using ht
      subst ea et
      exact cap_sound h
    · rename_i x y hc ha
      have : callee = .builtin .min := hc
      subst this
      have ea : args = #[x, y] := by apply Array.toList_inj.1; simpa using ha
      subst ea
      exact min_sound h
    · rename_i x y hc ha
      have : callee = .builtin .max := hc
      subst this
      have ea : args = #[x, y] := by apply Array.toList_inj.1; simpa using ha
      subst ea
      exact max_sound h
    · exact h.elim

theorem getD_put {a : Act} {d i : Nat} {u : Value} (hd : d < a.tmps.size) : (a.put (some d) u).tmps.getD i undef = if d = i then u else a.tmps.getD i undef := by
  simp only [Act.put, Array.getD_eq_getD_getElem?, Array.getElem?_setIfInBounds]
  by_cases h : d = i
  · subst h; simp [hd]
  · simp [h]

def KeepS (L : Loc) : Prop := ∀ i j, L ≠ .cell i j

section
variable {n : Nat} {W0 : World} {G0 : Gh} {c : Cfg} {a : Act} {w : World} {g : Gh}

theorem Inv.put (hi : Inv n W0 G0 c a w g) {d : Nat} (hd : d < n) {v : AV} {u : Value} (hr : Rep w g.hw g.bs c.base v u) : Inv n W0 G0 (c.put (some d) v) (a.put (some d) u) w g where
  size := by simpa [Act.put] using hi.size
  defers := hi.defers
  fr i h := by
    rw [getD_put (by rw [hi.size]; exact hd)]
    simp only [Cfg.put, Fr.get_cons]
    split
    · exact hr
    · exact hi.fr i h
  os i h := by
    simp only [Cfg.put, List.mem_filter] at h
    have hne : d ≠ i := by rintro rfl; simp at h
    obtain ⟨k, l, h1, h2⟩ := hi.os i h.1
    rw [getD_put (by rw [hi.size]; exact hd)]
    simp only [Cfg.put, Fr.get_cons, if_neg hne]
    exact ⟨k, l, h1, h2⟩
  good := hi.good
  ext := hi.ext
  ecl := hi.ecl
  b0 := hi.b0

theorem Inv.putO (hi : Inv n W0 G0 c a w g) {d : Option Nat} (hd : ∀ x, d = some x → x < n) {v : AV} {u : Value} (hr : Rep w g.hw g.bs c.base v u) : Inv n W0 G0 (c.put d v) (a.put d u) w g := by
  cases d with
  | none => exact hi
  | some d => exact hi.put (hd d rfl) hr

theorem Inv.step (hi : Inv n W0 G0 c a w g) {w' : World} {g' : Gh} (hg : Good w' g' c.mem c.base) (he : Ext KeepS w g w' g') : Inv n W0 G0 c a w' g' where
  size := hi.size
  defers := hi.defers
  fr i h := (hi.fr i h).mono he.hw he.bs
  os i h := by
    obtain ⟨k, l, h1, h2⟩ := hi.os i h
    exact ⟨k, l, h1, h2.mono fun b hb => he.ext b _ hb (by intro i j; simp)⟩
  good := hg
  ext := hi.ext.trans (he.weaken (by rintro L rfl; intro i j; simp))
  ecl := hi.ecl
  b0 := hi.b0

theorem GlobOk.rep {w : World} {hw : Hw} {bs : List Nat} {base : Nat} (h : GlobOk w hw) (g : Nat) : Rep w hw bs base (globA g) (.pointer (some ⟨g, 0, none⟩)) := by
  unfold globA
  split
  · rename_i p hp
    obtain ⟨cs, h1, h2⟩ := h.1 p (List.mem_of_find?_eq_some hp)
    have := List.find?_some hp
    obtain rfl : p.1 = g := Nat.eq_of_beq_eq_true this
    exact rep_mk_leaf rfl rfl (by simp only [RepV]; exact ⟨_, _, cs, rfl, h1, h2⟩)
  · exact .inl rfl

theorem Inv.eval (hi : Inv n W0 G0 c a w g) {x : Operand} (hx : okTmp n x = true) : Rep w g.hw g.bs c.base (evA c x) (a.eval x) := by
  cases x with
  | tmp t => exact hi.fr t (by rw [← Nat.blt_eq]; exact hx)
  | const v => exact cst_rep v hx
  | func f =>
    have : Rep w g.hw g.bs c.base (.fn (.func f) [] []) (.func (.func f) #[] #[]) := rep_mk_leaf rfl rfl (by simp only [RepV]; exact ⟨#[], #[], rfl, by simp only [RepL], by simp only [RepL]⟩)
    exact this
  | global g => exact hi.good.glob.rep g
end
end Go.Ev
end
section
/- Written by this session: what writes memory, over trees: new blocks, stores, who may append. Conditions: none beyond those in each statement. -/
namespace Go.Ev
open Go

def push (w : World) (o : Obj) : World := { w with heap := w.heap.push o }

theorem heap_push_old {w : World} {o : Obj} {b : Nat} (h : b < w.heap.size) : (push w o).heap[b]? = w.heap[b]? := by
  show (w.heap.push o)[b]? = _
  rw [Array.getElem?_push, if_neg (by omega)]
theorem heap_push_new {w : World} {o : Obj} : (push w o).heap[w.heap.size]? = some o := by
  show (w.heap.push o)[w.heap.size]? = _
  simp

theorem heap_lt {w : World} {b : Nat} {o : Obj} (h : w.heap[b]? = some o) : b < w.heap.size := by
  rcases Nat.lt_or_ge b w.heap.size with h' | h'
  · exact h'
  · rw [Array.getElem?_eq_none h'] at h; cases h

theorem cell?_same {w w' : World} {b o : Nat} (h : w'.heap[b]? = w.heap[b]?) : w'.cell? ⟨b, o, none⟩ = w.cell? ⟨b, o, none⟩ := by simp [World.cell?, h]

def upd {α : Type} (f : Nat → α) (i : Nat) (x : α) : Nat → α := fun j => if j = i then x else f j
theorem upd_same {α : Type} (f : Nat → α) (i : Nat) (x : α) : upd f i x i = x := by simp [upd]
theorem upd_ne {α : Type} (f : Nat → α) {i j : Nat} (x : α) (h : j ≠ i) : upd f i x j = f j := by simp [upd, h]

section
variable {w : World} {g : Gh} {mem : List Bx} {base : Nat}

theorem Good.box_lt (G : Good w g mem base) {b : Nat} (h : b ∈ g.bs) : b < w.heap.size := by
  obtain ⟨i, hi, rfl⟩ := List.mem_iff_getElem.1 h
  have hm : i < mem.length := by rw [← G.len]; exact hi
  have := G.box i mem[i] g.bs[i] (List.getElem?_eq_getElem hm) (List.getElem?_eq_getElem hi)
  cases hx : mem[i] with
  | cells l os => rw [hx] at this; obtain ⟨cs, e, h, _⟩ := this; exact heap_lt h
  | map l => rw [hx] at this; obtain ⟨es, n, h, _⟩ := this; exact heap_lt h
theorem Good.hw_lt (G : Good w g mem base) {b h : Nat} (e : g.hw b = some h) : b < w.heap.size := by
  obtain ⟨cs, e, f, h, _⟩ := G.hw b h e; exact heap_lt h

theorem RepB.mono {w w' : World} {g g' : Gh} (H : HwLe w g.hw w' g'.hw) (B : ∀ (i b : Nat), g.bs[i]? = some b → g'.bs[i]? = some b) {i b : Nat} {x : Bx} (hb : w'.heap[b]? = w.heap[b]?)
    (O : ∀ j b, g.own b = some (.cell i j) → g'.own b = some (.cell i j) ∧ g'.hw b = g.hw b ∧ w'.heap[b]? = w.heap[b]?) (h : RepB w g base i x b) : RepB w' g' base i x b := by
  cases x with
  | cells l os =>
    obtain ⟨cs, e, h1, h2, h3⟩ := h
    refine ⟨cs, e, hb.trans h1, RepL.mono H B l _ h2, fun j hj => ?_⟩
    obtain ⟨k, l', y, e1, e2, e3⟩ := h3 j hj
    exact ⟨k, l', y, e1, e2, e3.mono fun b hb => O j b hb⟩
  | map l =>
    obtain ⟨es, n, h1, h2⟩ := h
    exact ⟨es, n, hb.trans h1, RepM.mono H l _ h2⟩

/-- A new block: an array of cells of which h are known, with an owner, or nothing that is spoken of. -/
theorem Good.push (G : Good w g mem base) (o : Obj) (ho : Option Nat) (L : Option Loc) (h1 : ∀ h, ho = some h → ∃ cs e f, o = .cells cs e f ∧ h ≤ cs.size) (h2 : L.isSome = true → ho.isSome = true) :
    Good (push w o) { g with hw := upd g.hw w.heap.size ho, own := upd g.own w.heap.size L } mem base ∧
    Ext KeepS w g (push w o) { g with hw := upd g.hw w.heap.size ho, own := upd g.own w.heap.size L } := by
  have hwlt : ∀ b h, g.hw b = some h → b ≠ w.heap.size := fun b h e => Nat.ne_of_lt (G.hw_lt e)
  have ownlt : ∀ b L, g.own b = some L → b ≠ w.heap.size := fun b L e => by obtain ⟨h, e⟩ := G.own b L e; exact hwlt b h e
  have hhw : HwLe w g.hw (Ev.push w o) (upd g.hw w.heap.size ho) := fun b h e => ⟨h, by rw [upd_ne _ _ (hwlt b h e)]; exact e, Nat.le_refl _, fun x _ => cell?_same (heap_push_old (G.hw_lt e))⟩
  have hown : ∀ b L', g.own b = some L' → upd g.own w.heap.size L b = some L' ∧ upd g.hw w.heap.size ho b = g.hw b ∧ (Ev.push w o).heap[b]? = w.heap[b]? := fun b L' e => by
    have := ownlt b L' e
    obtain ⟨h, eh⟩ := G.own b L' e
    exact ⟨by rw [upd_ne _ _ this]; exact e, upd_ne _ _ this, heap_push_old (G.hw_lt eh)⟩
  constructor
  · refine ⟨G.len, G.nd, fun b hb => ?_, fun i x b hi hb => ?_, fun b h e => ?_, fun b L' e => ?_, G.glob.mono hhw⟩
    · show upd g.hw w.heap.size ho b = none
      rw [upd_ne _ _ (Nat.ne_of_lt (G.box_lt hb))]; exact G.nohw b hb
    · exact RepB.mono (g := g) (g' := { g with hw := upd g.hw w.heap.size ho, own := upd g.own w.heap.size L }) hhw (fun _ _ h => h) (heap_push_old (G.box_lt (List.mem_of_getElem? hb))) (fun j b e => hown b _ e) (G.box i x b hi hb)
    · simp only [upd] at e
      split at e
      · rename_i hb; subst hb
        obtain ⟨cs, e', f, rfl, hle⟩ := h1 h e
        exact ⟨cs, e', f, heap_push_new, hle⟩
      · obtain ⟨cs, e', f, h3, h4⟩ := G.hw b h e
        exact ⟨cs, e', f, (heap_push_old (heap_lt h3)).trans h3, h4⟩
    · simp only [upd] at e ⊢
      split at e
      · rename_i hb; subst hb
        simp only [if_true]
        exact Option.isSome_iff_exists.1 (h2 (by rw [e]; rfl))
      · rename_i hb
        simp only [hb, if_false]
        exact G.own b L' e
  · refine ⟨by simp [Ev.push], rfl, rfl, rfl, hhw, fun b L' e _ => hown b L' e, fun _ _ h => h, fun _ h => .inl h, fun b hb L' e => ?_, fun b hb _ _ => heap_push_old hb⟩
    have hne : b ≠ w.heap.size := Nat.ne_of_lt hb
    simp only [upd_ne _ _ hne] at e
    exact ⟨L', e, fun _ => rfl⟩

end

section
variable {n : Nat} {W0 : World} {G0 : Gh} {c : Cfg} {a : Act} {w : World} {g : Gh}

/-- A new box of one's own. -/
theorem Inv.newBoxG (hi : Inv n W0 G0 c a w g) (x0 : Bx) (o : Obj) (hx0 : ∀ g' : Gh, HwLe w g.hw (push w o) g'.hw → (∀ (i b : Nat), g.bs[i]? = some b → g'.bs[i]? = some b) → RepB (push w o) g' c.base (c.base + c.own.length) x0 w.heap.size) :
    ∃ g', Inv n W0 G0 { c with own := c.own ++ [x0] } a (push w o) g' ∧ g'.bs[c.base + c.own.length]? = some w.heap.size := by
  have G := hi.good
  obtain ⟨G1, E1⟩ := G.push o none none (by simp) (by simp)
  have hlen : g.bs.length = c.base + c.own.length := by rw [G.len]; simp [Cfg.mem, Cfg.base]
  have hnew : w.heap.size ∉ g.bs := fun h => Nat.lt_irrefl _ (G.box_lt h)
  have hB : ∀ (i b : Nat), g.bs[i]? = some b → (g.bs ++ [w.heap.size])[i]? = some b := fun i b h => by
    rw [List.getElem?_append_left]
    · exact h
    · rcases Nat.lt_or_ge i g.bs.length with h' | h'
      · exact h'
      · rw [List.getElem?_eq_none h'] at h; cases h
  let g1 : Gh := { g with hw := upd g.hw w.heap.size none, own := upd g.own w.heap.size none }
  let g' : Gh := { g1 with bs := g.bs ++ [w.heap.size] }
  have hnone : g.hw w.heap.size = none := by
    cases h : g.hw w.heap.size with
    | none => rfl
    | some x => exact absurd (G.hw_lt h) (Nat.lt_irrefl _)
  have E : Ext KeepS w g (push w o) g' := ⟨E1.size, rfl, rfl, rfl, E1.hw, E1.ext, hB, fun b hb => by
      rcases List.mem_append.1 hb with h | h
      · exact .inl h
      · simp at h; exact .inr (by omega), E1.orig, E1.old⟩
  have Good' : Good (push w o) g' (c.env ++ (c.own ++ [x0])) c.base := by
    refine ⟨by simp [g', hlen, Cfg.base]; omega, ?_, fun b hb => ?_, fun i x b hx hb => ?_, G1.hw, G1.own, G1.glob⟩
    · refine List.nodup_append.2 ⟨G.nd, by simp, ?_⟩
      intro x hx y hy hxy
      simp at hy; subst hy; subst hxy; exact hnew hx
    · rcases List.mem_append.1 hb with h | h
      · exact G1.nohw b h
      · simp at h; subst h; exact upd_same _ _ _
    · have hmem : c.env ++ (c.own ++ [x0]) = c.mem ++ [x0] := by simp [Cfg.mem]
      rw [hmem] at hx
      rcases Nat.lt_or_ge i c.mem.length with h | h
      · rw [List.getElem?_append_left h] at hx
        have hb' : g.bs[i]? = some b := by
          simp only [g'] at hb
          rwa [List.getElem?_append_left (by rw [G.len]; exact h)] at hb
        exact RepB.mono (g := g1) (g' := g') (HwLe.refl _ _) hB rfl (fun j b e => ⟨e, rfl, rfl⟩) (G1.box i x b hx hb')
      · rw [List.getElem?_append_right h] at hx
        have hi0 : i - c.mem.length = 0 := by
          rcases Nat.eq_zero_or_pos (i - c.mem.length) with h | h
          · exact h
          · rw [List.getElem?_eq_none (by simp; omega)] at hx; cases hx
        rw [hi0] at hx
        simp at hx; subst hx
        have : i = g.bs.length := by rw [G.len]; omega
        simp only [g'] at hb
        rw [this] at hb
        simp at hb; subst hb
        have hix : i = c.base + c.own.length := by rw [this, hlen]
        rw [hix]
        exact hx0 g' E.hw hB
  exact ⟨g', ⟨hi.size, hi.defers, fun i h => (hi.fr i h).mono E.hw hB, fun i h => by
      obtain ⟨k, l, h1, h2⟩ := hi.os i h
      exact ⟨k, l, h1, h2.mono fun b hb => E.ext b _ hb (by intro i j; simp)⟩,
    Good', hi.ext.trans (E.weaken (by rintro L rfl; intro i j; simp)), hi.ecl, hi.b0⟩, by simp only [g']; rw [← hlen]; simp⟩

/-- A new box of one's own. -/
theorem Inv.newBox (hi : Inv n W0 G0 c a w g) {l : List AV} {cs : Array Value} {e : TypeId} (hr : RepL w g.hw g.bs c.base l cs.toList) :
    ∃ g', Inv n W0 G0 { c with own := c.own ++ [.cells l []] } a (push w (.cells cs e)) g' ∧ g'.bs[c.base + c.own.length]? = some w.heap.size :=
  hi.newBoxG (.cells l []) (.cells cs e) fun _ H B => ⟨cs, e, heap_push_new, RepL.mono H B l _ hr, fun j hj => by cases hj⟩

/-- A new array. -/
theorem Inv.newArr (hi : Inv n W0 G0 c a w g) {k : Nat} {l : List AV} {cs : List Value} {rest : List Value} {e : TypeId} (hk : 0 < k) (hr : RepE w g.hw k l cs) (d : Nat) (m : Nat) (hB : l.length ≤ 140737488355328) (hm : l.length ≤ m) (hsz : m * k ≤ cs.length + rest.length) :
    ∃ g', Inv n W0 G0 c a (push w (.cells (cs ++ rest).toArray e)) g' ∧ Rep (push w (.cells (cs ++ rest).toArray e)) g'.hw g'.bs c.base (.sl k l) (.slice (some ⟨w.heap.size, 0, none⟩) l.length m) ∧
      OwnAt (push w (.cells (cs ++ rest).toArray e)) g' (.slot d) k (.slice (some ⟨w.heap.size, 0, none⟩) l.length m) := by
  have G := hi.good
  have hlen := RepE.len hr
  obtain ⟨G1, E1⟩ := G.push (.cells (cs ++ rest).toArray e) (some cs.length) (some (.slot d)) (by intro h e; simp at e; subst e; exact ⟨_, _, _, rfl, by simp⟩) (by simp)
  refine ⟨_, hi.step G1 E1, ?_, ?_⟩
  · refine rep_sl_mk rfl hm ⟨hk, hB⟩ (.inr ⟨w.heap.size, 0, cs, rfl, ⟨cs.length, upd_same _ _ _, by omega, fun j v hj => ?_⟩, RepE.mono E1.hw l cs hr⟩)
    simp only [World.cell?, heap_push_new, Option.isSome_none, Bool.false_eq_true, if_false, Nat.zero_add]
    have : j < cs.length := by
      rcases Nat.lt_or_ge j cs.length with h | h
      · exact h
      · rw [List.getElem?_eq_none h] at hj; cases hj
    simp [List.getElem?_append_left this, hj]
  · exact ⟨_, _, _, rfl, hm, .inr ⟨w.heap.size, 0, cs.length, _, e, rfl, upd_same _ _ _, upd_same _ _ _, by omega, heap_push_new, by simp; omega⟩⟩
end
end Go.Ev
end
section
/- Written by this session: append, over trees. Conditions: none beyond those in each statement. -/
namespace Go.Ev
open Go

section
variable {P : Program}

theorem firstCells_of {w : World} {hw : Hw} {bs : List Nat} {base k : Nat} {l : List AV} {y : Value} (h : Rep w hw bs base (.sl k l) y) :
    ∃ a c cs, y = .slice a l.length c ∧ RepE w hw k l cs ∧ ∀ w' : World, w'.heap = w.heap → (Builtin.firstCells k l.length y).run P w' = .ok cs.toArray w' := by
  obtain ⟨a, c, e, _, hk, hh⟩ := rep_sl h
  clear h
  subst e
  rcases hh with rfl | ⟨b, o, cs, rfl, hc, hr⟩
  · refine ⟨a, c, [], rfl, by simp [RepE], fun w' _ => ?_⟩
    cases a <;> simp [Builtin.firstCells, loadCells, loadCellsFrom]
  · refine ⟨_, c, cs, rfl, hr, fun w' hw' => ?_⟩
    have hc' : Cells w' hw b o cs := by
      obtain ⟨h, e, le, q⟩ := hc
      exact ⟨h, e, le, fun j v hj => by rw [show w'.cell? ⟨b, o + j, none⟩ = w.cell? ⟨b, o + j, none⟩ from cell?_same (by rw [hw'])]; exact q j v hj⟩
    simp only [Builtin.firstCells]
    exact run_loadCells hc' (RepE.len hr).symm

theorem run_append_grows {w : World} {t t' ty e e' : TypeId} {i : TypeInfo} {z : Value} (ht : P.underlying t = some (.slice e)) (ht' : P.underlying t' = some (.slice e')) (hi : P.info? e = some i) (hz : i.zero = some z)
    {bs : Option Addr} {sLen sCap m : Nat} {x : Value} {olds news : List Value} (hx : ∀ w' : World, (Builtin.lenOf x).run P w' = .ok m w')
    (ho : ∀ w' : World, w'.heap = w.heap → (Builtin.firstCells i.size sLen (.slice bs sLen sCap)).run P w' = .ok olds.toArray w')
    (hn : ∀ w' : World, w'.heap = w.heap → (Builtin.firstCells i.size m x).run P w' = .ok news.toArray w')
    (hg : sCap < sLen + m) (hb : (sLen + m) * i.bytes ≤ 140737488355328) (h63 : sLen + m ≤ maxLen) :
    (Builtin.append_ #[t, t'] ty #[.slice bs sLen sCap, x]).run P w =
      .ok (.slice (some ⟨w.heap.size, 0, none⟩) (sLen + m) (grownCap w (sLen + m) sCap e))
        (push w.drew (.cells (olds.toArray ++ news.toArray ++ Builtin.zeroCells z.cells (grownCap w (sLen + m) sCap e - (sLen + m))) e)) := by
  have h1 : ¬ (sLen + m ≤ sCap) := by omega
  have h2 : ¬ (((sLen + m : Nat) : Int) > IntKind.i64.max) := by
    have : IntKind.i64.max = 9223372036854775807 := by decide
    rw [this]; simp only [maxLen] at h63; omega
  have h3 : ¬ (Builtin.nextslicecap (sLen + m) sCap * i.bytes > 281474976710656) := by
    have := growslice_fits hg hb; omega
  have h4 : ¬ (9223372036854775807 < ((sLen : Int) + (m : Int))) := by simp only [maxLen] at h63; omega
  have ho' := ho w.drew rfl
  have hn' := hn w.drew rfl
  have e63 : IntKind.i64.max = 9223372036854775807 := by decide
  simp [Builtin.append_, run_und ht, run_und ht', sizeOf, typeInfo, hi, hx, h1, e63, h4, h3, Question.forced, zeroValue, hz, newRow]
  rw [ho']
  simp only [Result.andThen_ok]
  rw [hn']
  simp only [Result.andThen_ok]
  rw [show ∀ Z : Array Value, olds.toArray ++ (news.toArray ++ Z) = (olds ++ news).toArray ++ Z from fun Z => by apply Array.toList_inj.1; simp only [Array.toList_append, List.append_assoc]]
  rfl

theorem run_append_fits {w : World} {t t' ty e e' : TypeId} {i : TypeInfo} (ht : P.underlying t = some (.slice e)) (ht' : P.underlying t' = some (.slice e')) (hi : P.info? e = some i)
    {b o sLen sCap m : Nat} {x : Value} {news : List Value} {cs : Array Value} {et : TypeId} (hx : ∀ w' : World, (Builtin.lenOf x).run P w' = .ok m w')
    (hn : ∀ w' : World, w'.heap = w.heap → (Builtin.firstCells i.size m x).run P w' = .ok news.toArray w')
    (hheap : w.heap[b]? = some (.cells cs et (0, 0))) (hl : news.length = m * i.size) (h1 : ∀ u ∈ news, u.oneCell' = true) (hroom : sLen + m ≤ sCap) (hfit : o + sCap * i.size ≤ cs.size) :
    (Builtin.append_ #[t, t'] ty #[.slice (some ⟨b, o, none⟩) sLen sCap, x]).run P w =
      .ok (.slice (some ⟨b, o, none⟩) (sLen + m) sCap) (w.setRow b (cs.toList.take (o + sLen * i.size) ++ news ++ cs.toList.drop (o + sLen * i.size + news.length)).toArray) := by
  have hmul : sLen * i.size + m * i.size ≤ sCap * i.size := by rw [← Nat.add_mul]; exact Nat.mul_le_mul_right _ hroom
  have hst := run_storeCells_at P b (o + sLen * i.size) et news 0 cs w hheap (by omega) h1
  simp only [Nat.add_zero] at hst
  simp [Builtin.append_, run_und ht, run_und ht', sizeOf, typeInfo, hi, hx, hroom, hn w rfl, addr_add, hst]
end
end Go.Ev
end
section
/- Written by this session: who may append, and what an append makes of a frame of trees. Conditions: none beyond those in each statement. -/
namespace Go.Ev
open Go

section
variable {n : Nat} {W0 : World} {G0 : Gh} {c : Cfg} {a : Act} {w : World} {g : Gh}

theorem HwLe.of_heap {w w' : World} {hw : Hw} (h : w'.heap = w.heap) : HwLe w hw w' hw := fun _ h' e => ⟨h', e, Nat.le_refl _, fun _ _ => cell?_same (by rw [h])⟩

/-- A draw. -/
theorem Inv.drew (hi : Inv n W0 G0 c a w g) : Inv n W0 G0 c a w.drew g := by
  have E : Ext KeepS w g w.drew g := ⟨Nat.le_refl _, rfl, rfl, rfl, HwLe.of_heap rfl, fun _ _ h _ => ⟨h, rfl, rfl⟩, fun _ _ h => h, fun _ h => .inl h, fun _ _ L h => ⟨L, h, fun _ => rfl⟩, fun _ _ _ _ => rfl⟩
  refine hi.step ⟨hi.good.len, hi.good.nd, hi.good.nohw, fun i x b hx hb => ?_, hi.good.hw, hi.good.own, GlobOk.mono (w := w) (w' := w.drew) (HwLe.of_heap (w := w) (w' := w.drew) rfl) hi.good.glob⟩ E
  exact RepB.mono (w := w) (w' := w.drew) (g := g) (g' := g) (HwLe.of_heap rfl) (fun _ _ h => h) rfl (fun j b e => ⟨e, rfl, rfl⟩) (hi.good.box i x b hx hb)

def moved (s d : Loc) (L : Loc) : Loc := if L = s then d else L

/-- The right to append goes from one place to another. -/
theorem Good.relabel {mem : List Bx} {base : Nat} (G : Good w g mem base) {s : Nat} {d : Loc} :
    let g' : Gh := { g with own := fun b => (g.own b).map (moved (.slot s) d) }
    Good w g' mem base ∧ (∀ W0 G0, Ext (· = .ext) W0 G0 w g → Ext (· = .ext) W0 G0 w g') ∧ (∀ L k y, L ≠ .slot s → OwnAt w g L k y → OwnAt w g' L k y) ∧ (∀ k y, OwnAt w g (.slot s) k y → OwnAt w g' d k y) := by
  have O1 : ∀ L k y, L ≠ .slot s → OwnAt w g L k y → OwnAt w { g with own := fun b => (g.own b).map (moved (.slot s) d) } L k y := by
    intro L k y hL h
    obtain ⟨a, n, c, e, hn, h⟩ := h
    refine ⟨a, n, c, e, hn, h.imp id ?_⟩
    rintro ⟨b, o, h, cs, e, ea, h1, h2, h3, h4, h5⟩
    exact ⟨b, o, h, cs, e, ea, by simp [h1, moved, hL], h2, h3, h4, h5⟩
  refine ⟨⟨G.len, G.nd, G.nohw, fun i x b hx hb => ?_, G.hw, fun b L e => ?_, G.glob⟩, fun W0 G0 E => ?_, O1, ?_⟩
  · have := G.box i x b hx hb
    cases x with
    | cells l os =>
      obtain ⟨cs, e, h1, h2, h3⟩ := this
      exact ⟨cs, e, h1, h2, fun j hj => by
        obtain ⟨k, l', y, e1, e2, e3⟩ := h3 j hj
        exact ⟨k, l', y, e1, e2, O1 _ k y (by simp) e3⟩⟩
    | map l => exact this
  · simp only [Option.map_eq_some_iff] at e
    obtain ⟨L', e, _⟩ := e
    exact G.own b L' e
  · refine ⟨E.size, E.tape, E.os, E.output, E.hw, fun b L e hk => ?_, E.bs, E.bsnew, fun b hb L e => ?_, E.old⟩
    · obtain ⟨h1, h2, h3⟩ := E.ext b L e hk
      subst hk
      exact ⟨by simp [h1, moved], h2, h3⟩
    · simp only [Option.map_eq_some_iff] at e
      obtain ⟨L', e, rfl⟩ := e
      obtain ⟨L'', e', he⟩ := E.orig b hb L' e
      refine ⟨L'', e', fun hk => ?_⟩
      have := he hk
      subst this hk
      simp [moved]
  · intro k y h
    obtain ⟨a, n, c, e, hn, h⟩ := h
    refine ⟨a, n, c, e, hn, h.imp id ?_⟩
    rintro ⟨b, o, h, cs, e, ea, h1, h2, h3, h4, h5⟩
    exact ⟨b, o, h, cs, e, ea, by simp [h1, moved], h2, h3, h4, h5⟩

/-- A slot's value is put into another slot, and the right to append with it. -/
def Cfg.give (c : Cfg) (s d : Nat) : Cfg := { c with fr := (d, Fr.get c.fr s) :: c.fr, os := d :: c.os.filter fun i => !(Nat.beq i d || Nat.beq i s) }

theorem Inv.give (hi : Inv n W0 G0 c a w g) {s d : Nat} (hs : s ∈ c.os) (hd : d < n) (hsn : s < n) : ∃ g', Inv n W0 G0 (c.give s d) (a.put (some d) (a.tmps.getD s undef)) w g' := by
  obtain ⟨G', E', O1, O2⟩ := hi.good.relabel (s := s) (d := .slot d)
  refine ⟨_, ⟨by simpa [Act.put] using hi.size, hi.defers, fun i h => ?_, fun i h => ?_, G', E' _ _ hi.ext, hi.ecl, hi.b0⟩⟩
  · rw [getD_put (by rw [hi.size]; exact hd)]
    simp only [Cfg.give, Fr.get_cons]
    split
    · exact hi.fr s hsn
    · exact hi.fr i h
  · rw [getD_put (by rw [hi.size]; exact hd)]
    simp only [Cfg.give, Fr.get_cons] at h ⊢
    by_cases hdi : d = i
    · simp only [hdi, if_true]
      obtain ⟨k, l, h1, h2⟩ := hi.os s hs
      exact ⟨k, l, h1, hdi ▸ O2 k _ h2⟩
    · simp only [hdi, if_false]
      have hm : i ∈ c.os ∧ i ≠ s := by
        rcases List.mem_cons.1 h with h | h
        · exact absurd h.symm hdi
        · simp only [List.mem_filter, Bool.not_eq_true', Bool.or_eq_false_iff] at h
          exact ⟨h.1, fun e => by subst e; simp at h⟩
      obtain ⟨k, l, h1, h2⟩ := hi.os i hm.1
      exact ⟨k, l, h1, O1 _ k _ (by simp [hm.2]) h2⟩

theorem Inv.append {P : Program} (hi : Inv n W0 G0 c a w g) {t t' ty e e' : TypeId} {i : TypeInfo} {z : Value} {s d k : Nat} {l0 l1 : List AV} {y0 y1 : Value}
    (ht : P.underlying t = some (.slice e)) (ht' : P.underlying t' = some (.slice e')) (hin : P.info? e = some i) (hz : i.zero = some z) (hk : i.size = k) (hzk : z.cells.size = k)
    (hr0 : Rep w g.hw g.bs c.base (.sl k l0) y0) (ho : OwnAt w g (.slot s) k y0) (hr1 : Rep w g.hw g.bs c.base (.sl k l1) y1)
    (hb : (l0.length + l1.length) * i.bytes ≤ 140737488355328) (h47 : l0.length + l1.length ≤ 140737488355328) :
    ∃ v' w' g', (Builtin.append_ #[t, t'] ty #[y0, y1]).run P w = .ok v' w' ∧ Inv n W0 G0 { c with os := c.os.filter fun i => !Nat.beq i s } a w' g' ∧
      Rep w' g'.hw g'.bs c.base (.sl k (l0 ++ l1)) v' ∧ OwnAt w' g' (.slot d) k v' := by
  obtain ⟨A0, c0, olds, rfl, hE0, hf0⟩ := firstCells_of (P := P) hr0
  obtain ⟨A1, c1, news, rfl, hE1, hf1⟩ := firstCells_of (P := P) hr1
  have hk0 : 0 < k := by obtain ⟨_, _, _, _, h, _⟩ := rep_sl hr0; exact h
  have hlc : l0.length ≤ c0 := by obtain ⟨a', c', e, h, _⟩ := rep_sl hr0; simp at e; rw [e.2]; exact h
  have hx : ∀ w' : World, (Builtin.lenOf (.slice A1 l1.length c1)).run P w' = .ok l1.length w' := fun w' => by simp [Builtin.lenOf]
  have h63 : l0.length + l1.length ≤ maxLen := by simp only [maxLen]; omega
  have hl0 := RepE.len hE0
  have hl1 := RepE.len hE1
  have hweak : ∀ w' g', Inv n W0 G0 c a w' g' → Inv n W0 G0 { c with os := c.os.filter fun i => !Nat.beq i s } a w' g' := fun w' g' h =>
    ⟨h.size, h.defers, h.fr, fun j hj => h.os j (List.mem_filter.1 hj).1, h.good, h.ext, h.ecl, h.b0⟩
  have happ : ∀ {w1 : World} {hw1 : Hw} (l0 l1 : List AV) (o1 o2 : List Value), RepE w1 hw1 k l0 o1 → RepE w1 hw1 k l1 o2 → RepE w1 hw1 k (l0 ++ l1) (o1 ++ o2) := by
    intro w1 hw1 l0
    induction l0 with
    | nil => intro l1 o1 o2 h1 h2; simp only [RepE] at h1; subst h1; simpa using h2
    | cons x l0 ih =>
      intro l1 o1 o2 h1 h2
      simp only [RepE] at h1
      obtain ⟨q1, q2, q3⟩ := h1
      simp only [List.cons_append, RepE]
      refine ⟨by simp; omega, ?_, ?_⟩
      · rw [List.take_append_of_le_length q1]; exact q2
      · rw [List.drop_append_of_le_length q1]; exact ih l1 _ _ q3 h2
  have hrep0 := (rep_sl hr0)
  by_cases hroom : l0.length + l1.length ≤ c0 ∧ c0 ≠ 0
  · obtain ⟨hroom, hc0⟩ := hroom
    obtain ⟨A, n0, c', e0, _, hh⟩ := ho
    simp only [Value.slice.injEq] at e0
    obtain ⟨rfl, rfl, rfl⟩ := e0
    rcases hh with hh | ⟨b, o, h, cs, et, rfl, hown, hhw, hoh, hheap, hfit⟩
    · exact absurd hh hc0
    have hcs0 : ∃ cs0, RepE w g.hw k l0 cs0 ∧ CellsAt w b o cs0 := by
      obtain ⟨a', c', e1, _, _, hh⟩ := hrep0
      simp only [Value.slice.injEq] at e1
      rcases hh with rfl | ⟨b', o', cs0, e2, hc, hr⟩
      · exact ⟨[], by simp [RepE], fun j v hj => by simp at hj⟩
      · rw [← e1.1] at e2
        simp only [Option.some.injEq, Addr.mk.injEq] at e2
        obtain ⟨rfl, rfl, _⟩ := e2
        exact ⟨cs0, hr, hc.at⟩
    obtain ⟨cs0, hE0', hcells0⟩ := hcs0
    have hl0' := RepE.len hE0'
    have hone : ∀ u ∈ news, u.oneCell' = true := by
      have : ∀ (l : List AV) (vs : List Value), RepE w g.hw k l vs → ∀ u ∈ vs, u.oneCell' = true := by
        intro l
        induction l with
        | nil => intro vs h; simp only [RepE] at h; subst h; simp
        | cons x l ih =>
          intro vs h u hu
          simp only [RepE] at h
          obtain ⟨q1, q2, q3⟩ := h
          rw [← List.take_append_drop k vs] at hu
          rcases List.mem_append.1 hu with hu | hu
          · have hL := repV_leaves q2.1 q2.2
            have : ∀ (l : List AV) (vs : List Value), RepL w g.hw [] 0 l vs → ∀ u ∈ vs, u.oneCell' = true := by
              intro l
              induction l with
              | nil => intro vs h; simp only [RepL] at h; subst h; simp
              | cons x l ih =>
                intro vs h u hu
                simp only [RepL] at h
                obtain ⟨v, vs', rfl, h1, h2⟩ := h
                rcases List.mem_cons.1 hu with rfl | hu
                · exact h1.2.2
                · exact ih _ h2 u hu
            exact this _ _ hL u hu
          · exact ih _ q3 u hu
      exact this l1 news hE1
    subst hk
    have hrun := run_append_fits (w := w) (ty := ty) ht ht' hin hx hf1 hheap hl1 hone hroom hfit
    have hmul : l0.length * i.size + l1.length * i.size ≤ c0 * i.size := by rw [← Nat.add_mul]; exact Nat.mul_le_mul_right _ hroom
    let cs' : Array Value := (cs.toList.take (o + l0.length * i.size) ++ news ++ cs.toList.drop (o + l0.length * i.size + news.length)).toArray
    have hsz' : cs'.size = cs.size := by
      simp only [cs', List.size_toArray, List.length_append, List.length_take, List.length_drop, Array.length_toList]; omega
    let g' : Gh := { g with hw := upd g.hw b (some (h + news.length)), own := upd g.own b (some (.slot d)) }
    have hheap' : (w.setRow b cs').heap[b]? = some (.cells cs' et (0, 0)) := setRow_heap w b cs cs' et (0, 0) hheap
    have hcell : ∀ x, (w.setRow b cs').cell? ⟨b, x, none⟩ = cs'[x]? := fun x => by
      unfold World.cell?
      rw [hheap']
      rfl
    have hoth : ∀ b', b' ≠ b → (w.setRow b cs').heap[b']? = w.heap[b']? := fun b' hb' => setRow_other w b b' cs' hb'
    have hbnot : b ∉ g.bs := fun hb' => by have := hi.good.nohw b hb'; rw [hhw] at this; cases this
    have hH : HwLe w g.hw (w.setRow b cs') g'.hw := by
      intro b' h' e'
      by_cases hb' : b' = b
      · subst hb'
        rw [hhw] at e'
        cases e'
        refine ⟨h + news.length, upd_same _ _ _, by omega, fun o' ho' => ?_⟩
        rcases ho' with ho' | ho'
        · simp only [World.cell?, hheap', hheap, Option.isSome_none, Bool.false_eq_true, if_false]
          simp only [cs', List.getElem?_toArray, List.append_assoc]
          rw [List.getElem?_append_left (by simp; omega), List.getElem?_take, if_pos (by omega)]
          simp
        · rw [ho', hcell]
          simp only [World.cell?, hheap, Option.isSome_none, Bool.false_eq_true, if_false, Array.getElem?_eq_none_iff] at ho'
          rw [Array.getElem?_eq_none_iff]; omega
      · exact ⟨h', by rw [show g'.hw b' = g.hw b' from upd_ne _ _ hb']; exact e', Nat.le_refl _, fun _ _ => cell?_same (hoth b' hb')⟩
    have hOwn : ∀ L, L ≠ .slot s → ∀ b', g.own b' = some L → g'.own b' = some L ∧ g'.hw b' = g.hw b' ∧ (w.setRow b cs').heap[b']? = w.heap[b']? := fun L hL b' e' => by
      have hb' : b' ≠ b := by rintro rfl; rw [hown] at e'; cases e'; exact hL rfl
      exact ⟨by rw [show g'.own b' = g.own b' from upd_ne _ _ hb']; exact e', upd_ne _ _ hb', hoth b' hb'⟩
    have hGood : Good (w.setRow b cs') g' c.mem c.base := by
      refine ⟨hi.good.len, hi.good.nd, fun b' hb' => ?_, fun j x b' hx hb' => ?_, fun b' h' e' => ?_, fun b' L e' => ?_, hi.good.glob.mono hH⟩
      · have : b' ≠ b := fun e => hbnot (e ▸ hb')
        rw [show g'.hw b' = g.hw b' from upd_ne _ _ this]; exact hi.good.nohw b' hb'
      · have : b' ≠ b := fun e => hbnot (e ▸ List.mem_of_getElem? hb')
        exact RepB.mono (g := g) (g' := g') hH (fun _ _ h => h) (hoth b' this) (fun q b'' e => hOwn _ (by simp) b'' e) (hi.good.box j x b' hx hb')
      · by_cases hb' : b' = b
        · subst hb'
          rw [show g'.hw b' = some (h + news.length) from upd_same _ _ _] at e'
          cases e'
          exact ⟨cs', et, (0, 0), hheap', by rw [hsz']; omega⟩
        · rw [show g'.hw b' = g.hw b' from upd_ne _ _ hb'] at e'
          obtain ⟨q1, q2, q3, q4, q5⟩ := hi.good.hw b' h' e'
          exact ⟨q1, q2, q3, (hoth b' hb').trans q4, q5⟩
      · by_cases hb' : b' = b
        · subst hb'; exact ⟨_, upd_same _ _ _⟩
        · rw [show g'.own b' = g.own b' from upd_ne _ _ hb'] at e'
          rw [show g'.hw b' = g.hw b' from upd_ne _ _ hb']
          exact hi.good.own b' L e'
    have hExt : Ext (· = .ext) w g (w.setRow b cs') g' := by
      refine ⟨by simp [World.setRow], rfl, rfl, rfl, hH, fun b' L e' hL => ?_, fun _ _ h => h, fun _ h => .inl h, fun b' _ L e' => ?_, fun b' _ _ hk' => ?_⟩
      · subst hL; exact hOwn .ext (by simp) b' e'
      · by_cases hb' : b' = b
        · subst hb'; exact ⟨.slot s, hown, fun h => by cases h⟩
        · rw [show g'.own b' = g.own b' from upd_ne _ _ hb'] at e'
          exact ⟨L, e', fun _ => rfl⟩
      · refine hoth b' ?_
        rintro rfl
        have := hk' _ hown
        cases this
    refine ⟨_, _, g', hrun, ⟨hi.size, hi.defers, fun j hj => (hi.fr j hj).mono hH (fun _ _ h => h), fun j hj => ?_, hGood, hi.ext.trans hExt, hi.ecl, hi.b0⟩, ?_, ?_⟩
    · have hj' := List.mem_filter.1 hj
      have hne : j ≠ s := by rintro rfl; simp at hj'
      obtain ⟨k, l, h1, h2⟩ := hi.os j hj'.1
      exact ⟨k, l, h1, h2.mono fun b' e' => hOwn _ (by simp [hne]) b' e'⟩
    · refine rep_sl_mk (by simp) (by simp; omega) ⟨hk0, by simp; omega⟩ (.inr ⟨b, o, cs0 ++ news, rfl, ⟨h + news.length, upd_same _ _ _, by simp; omega, fun j v hj => ?_⟩, happ _ _ _ _ (RepE.mono hH _ _ hE0') (RepE.mono hH _ _ hE1)⟩)
      rcases Nat.lt_or_ge j cs0.length with hjl | hjl
      · rw [List.getElem?_append_left hjl] at hj
        obtain ⟨_, _, _, hsame⟩ := hH b h hhw
        rw [hsame (o + j) (by omega)]
        exact hcells0 j v hj
      · rw [List.getElem?_append_right hjl] at hj
        have hjn : j - cs0.length < news.length := by
          rcases Nat.lt_or_ge (j - cs0.length) news.length with h | h
          · exact h
          · rw [List.getElem?_eq_none h] at hj; cases hj
        rw [hcell]
        simp only [cs', List.getElem?_toArray, List.append_assoc]
        have hlen : (List.take (o + l0.length * i.size) cs.toList).length = o + l0.length * i.size := by simp; omega
        rw [List.getElem?_append_right (by rw [hlen]; omega), hlen, List.getElem?_append_left (by omega), show o + j - (o + l0.length * i.size) = j - cs0.length from by omega]
        exact hj
    · exact ⟨_, _, _, rfl, hroom, .inr ⟨b, o, h + news.length, cs', et, rfl, upd_same _ _ _, upd_same _ _ _, by rw [← hoh, hl1, Nat.add_mul]; omega, hheap', by rw [hsz']; exact hfit⟩⟩
  · by_cases hz0 : c0 = 0 ∧ l1.length = 0
    · obtain ⟨rfl, h1⟩ := hz0
      have e1 : l1 = [] := List.eq_nil_of_length_eq_zero h1
      have e0 : l0 = [] := List.eq_nil_of_length_eq_zero (by omega)
      subst e1 e0
      simp only [RepE] at hE1
      subst hE1
      refine ⟨.slice A0 0 0, w, g, ?_, hweak w g hi, rep_sl_mk rfl (by simp) ⟨hk0, by simp⟩ (.inl rfl), ⟨_, _, _, rfl, Nat.le_refl _, .inl rfl⟩⟩
      have hf := hf1 w rfl
      rw [← hk] at hf
      simp only [List.length_nil] at hf
      cases A0 <;> simp [Builtin.append_, run_und ht, run_und ht', sizeOf, typeInfo, hin, Builtin.lenOf, hf, storeCells]
    · have hg : c0 < l0.length + l1.length := by
        rcases Nat.lt_or_ge c0 (l0.length + l1.length) with h | h
        · exact h
        · exact absurd ⟨h, fun e => hz0 ⟨e, by omega⟩⟩ hroom
      subst hk
      have hrun := run_append_grows (w := w) (ty := ty) ht ht' hin hz hx hf0 hf1 hg hb h63
      have hge := grownCap_ge w (l0.length + l1.length) c0 e
      have hi' := (hweak w g hi).drew
      have hE := happ _ _ _ _ hE0 hE1
      have hE' : RepE w.drew g.hw i.size (l0 ++ l1) (olds ++ news) := RepE.mono (w := w) (w' := w.drew) (HwLe.of_heap rfl) _ _ hE
      obtain ⟨g', hI, hR, hO⟩ := hi'.newArr (rest := (Builtin.zeroCells z.cells (grownCap w (l0.length + l1.length) c0 e - (l0.length + l1.length))).toList) (e := e) hk0 hE' d (grownCap w (l0.length + l1.length) c0 e) (by simp; omega) (by simpa using hge) (by
        have : (Builtin.zeroCells z.cells (grownCap w (l0.length + l1.length) c0 e - (l0.length + l1.length))).toList.length = (grownCap w (l0.length + l1.length) c0 e - (l0.length + l1.length)) * i.size := by
          simp [Builtin.zeroCells, hzk]
        rw [this, List.length_append, hl0, hl1, ← Nat.add_mul, ← Nat.add_mul]
        exact Nat.mul_le_mul_right _ (by omega))
      have ecs : (olds ++ news ++ (Builtin.zeroCells z.cells (grownCap w (l0.length + l1.length) c0 e - (l0.length + l1.length))).toList).toArray = olds.toArray ++ news.toArray ++ Builtin.zeroCells z.cells (grownCap w (l0.length + l1.length) c0 e - (l0.length + l1.length)) := by
        apply Array.toList_inj.1; simp only [Array.toList_append, List.append_assoc]
      rw [ecs] at hI hR hO
      rw [List.length_append] at hR hO
      exact ⟨_, _, g', hrun, hI, hR, hO⟩
end
end Go.Ev
end
section
/- Written by this session: stores into boxes, over trees. Conditions: none beyond those in each statement. -/
namespace Go.Ev
open Go

structure OneBlk (w w' : World) (b : Nat) (o : Obj) : Prop where
  size : w'.heap.size = w.heap.size
  tape : w'.tape = w.tape
  os : w'.os = w.os
  output : w'.output = w.output
  blk : w'.heap[b]? = some o
  oth : ∀ b', b' ≠ b → w'.heap[b']? = w.heap[b']?

theorem oneBlk_setRow {w : World} {b : Nat} {cs cs' : Array Value} {e : TypeId} (h : w.heap[b]? = some (.cells cs e (0, 0))) : OneBlk w (w.setRow b cs') b (.cells cs' e (0, 0)) :=
  ⟨by simp [World.setRow], rfl, rfl, rfl, setRow_heap w b cs cs' e (0, 0) h, fun b' hb => setRow_other w b b' cs' hb⟩
theorem oneBlk_setObj {w : World} {b : Nat} {o o' : Obj} (h : w.heap[b]? = some o) : OneBlk w { w with heap := w.heap.setIfInBounds b o' } b o' :=
  ⟨by simp, rfl, rfl, rfl, by simp [heap_lt h], fun b' hb => by simp [Ne.symm hb]⟩

section
variable {w w' : World} {g : Gh} {mem : List Bx} {base : Nat}

theorem Good.write (G : Good w g mem base) {q b : Nat} {x x' : Bx} {o : Obj} (hx : mem[q]? = some x) (hb : g.bs[q]? = some b) (W : OneBlk w w' b o)
    (hn : HwLe w g.hw w' g.hw → (∀ L b', g.own b' = some L → g.own b' = some L ∧ g.hw b' = g.hw b' ∧ w'.heap[b']? = w.heap[b']?) → RepB w' g base q x' b) :
    Good w' g (mem.set q x') base ∧ Ext KeepS w g w' g := by
  have hbm : b ∈ g.bs := List.mem_of_getElem? hb
  have hne : ∀ b' h, g.hw b' = some h → b' ≠ b := fun b' h e hb' => by subst hb'; rw [G.nohw _ hbm] at e; cases e
  have hH : HwLe w g.hw w' g.hw := fun b' h e => ⟨h, e, Nat.le_refl _, fun _ _ => cell?_same (W.oth b' (hne b' h e))⟩
  have hO : ∀ L b', g.own b' = some L → g.own b' = some L ∧ g.hw b' = g.hw b' ∧ w'.heap[b']? = w.heap[b']? := fun L b' e => by
    obtain ⟨h, eh⟩ := G.own b' L e
    exact ⟨e, rfl, W.oth b' (hne b' h eh)⟩
  refine ⟨⟨by rw [G.len]; simp, G.nd, G.nohw, fun i y b' hy hb' => ?_, fun b' h e => ?_, G.own, G.glob.mono hH⟩, ?_⟩
  · have hq : q < mem.length := by
      rcases Nat.lt_or_ge q mem.length with h | h
      · exact h
      · rw [List.getElem?_eq_none h] at hx; cases hx
    by_cases hi : i = q
    · subst hi
      rw [List.getElem?_set_self hq] at hy
      rw [hb] at hb'
      cases hy; cases hb'
      exact hn hH hO
    · rw [List.getElem?_set_ne (Ne.symm hi)] at hy
      have hbb : b' ≠ b := by
        rintro rfl
        apply hi
        have h1 := (List.getElem?_eq_some_iff.1 hb')
        have h2 := (List.getElem?_eq_some_iff.1 hb)
        exact (List.getElem_inj G.nd (h₀ := h1.1) (h₁ := h2.1)).1 (h1.2.trans h2.2.symm)
      exact RepB.mono (g := g) (g' := g) hH (fun _ _ h => h) (W.oth b' hbb) (fun j b e => hO _ b e) (G.box i y b' hy hb')
  · obtain ⟨cs, et, f, h1, h2⟩ := G.hw b' h e
    exact ⟨cs, et, f, (W.oth b' (hne b' h e)).trans h1, h2⟩
  · exact ⟨by rw [W.size]; exact Nat.le_refl _, W.tape, W.os, W.output, hH, fun b' L e _ => hO L b' e, fun _ _ h => h, fun _ h => .inl h, fun _ _ L h => ⟨L, h, fun _ => rfl⟩, fun b' _ hb' _ => W.oth b' fun e => hb' (e ▸ hbm)⟩

theorem RepL.append {hw : Hw} {bs : List Nat} : ∀ {l1 l2 : List AV} {v1 v2 : List Value}, RepL w hw bs base l1 v1 → RepL w hw bs base l2 v2 → RepL w hw bs base (l1 ++ l2) (v1 ++ v2)
  | [], _, _, _, h1, h2 => by simp only [RepL] at h1; subst h1; simpa using h2
  | x :: l1, l2, _, v2, h1, h2 => by
    simp only [RepL] at h1
    obtain ⟨v, vs', rfl, h3, h4⟩ := h1
    simp only [List.cons_append, RepL]
    exact ⟨v, _, rfl, h3, RepL.append h4 h2⟩
end

def wrL {α : Type} (l : List α) (off : Nat) (xs : List α) : List α := l.take off ++ xs ++ l.drop (off + xs.length)

theorem wrL_get {α : Type} {l : List α} {off : Nat} {xs : List α} (h : off + xs.length ≤ l.length) {j : Nat} (hj : j < off ∨ off + xs.length ≤ j) : (wrL l off xs)[j]? = l[j]? := by
  unfold wrL
  rcases hj with hj | hj
  · rw [List.append_assoc, List.getElem?_append_left (by simp; omega), List.getElem?_take, if_pos hj]
  · have h1 : (l.take off ++ xs).length = off + xs.length := by simp; omega
    rw [List.getElem?_append_right (by rw [h1]; exact hj), h1, List.getElem?_drop]
    congr 1; omega
theorem wrL_at {α : Type} {l : List α} {off : Nat} {x : α} (h : off < l.length) : (wrL l off [x])[off]? = some x := by
  unfold wrL
  have h1 : (l.take off).length = off := by simp; omega
  rw [List.append_assoc, List.getElem?_append_right (by rw [h1]; exact Nat.le_refl _), h1]
  simp

theorem rep_cells {w : World} {hw : Hw} {bs : List Nat} {base : Nat} {x : AV} {y : Value} (hx : x.isAgg = true ∨ x.isLeaf = true) (h : Rep w hw bs base x y) :
    RepL w hw bs base x.leaves y.cells.toList ∧ y.cells.size = x.leaves.length := by
  have key : RepL w hw bs base x.leaves y.cells.toList := by
    rcases hx with hx | hx
    · cases x <;> simp only [AV.isAgg] at hx <;> try cases hx
      obtain ⟨cs, rfl, hr⟩ := rep_agg h
      simpa [Value.cells, AV.leaves] using hr
    · obtain ⟨h1, h2, h3⟩ := rep_isLeaf hx h
      have e1 := cells_toList_of (visAgg_of h3)
      rw [e1]
      have : x.leaves = [x] := by cases x <;> simp_all [AV.leaves, AV.isAgg]
      rw [this]
      simp only [RepL]
      exact ⟨y, [], rfl, ⟨h1, h2, h3⟩, rfl⟩
  exact ⟨key, by have := RepL.length key; simpa using this⟩

theorem oneCells {w : World} {hw : Hw} {bs : List Nat} {base : Nat} : ∀ {l : List AV} {vs : List Value}, RepL w hw bs base l vs → ∀ u ∈ vs, u.oneCell' = true
  | [], _, h, u, hu => by simp only [RepL] at h; subst h; cases hu
  | x :: l, _, h, u, hu => by
    simp only [RepL] at h
    obtain ⟨v, vs', rfl, h1, h2⟩ := h
    rcases List.mem_cons.1 hu with rfl | hu
    · exact h1.2.2
    · exact oneCells h2 u hu

section
variable {n : Nat} {W0 : World} {G0 : Gh} {c : Cfg} {a : Act} {w : World} {g : Gh} {P : Program}

theorem run_storeVar {t : TypeId} {b off : Nat} {cs : Array Value} {e : TypeId} {v : Value} (ht : (P.underlying t).isSome = true) (hsz : v.cells.size = P.cellsOf t) (hheap : w.heap[b]? = some (.cells cs e (0, 0)))
    (hfit : off + v.cells.size ≤ cs.size) (h1 : ∀ u ∈ v.cells.toList, u.oneCell' = true) :
    (storeVar t ⟨b, off, none⟩ v).run P w = .ok () (w.setRow b (wrL cs.toList off v.cells.toList).toArray) := by
  have hst := run_storeCells_at P b off e v.cells.toList 0 cs w hheap (by simpa using hfit) h1
  simp only [Nat.add_zero] at hst
  simp only [storeVar, Sem.run_bind, run_size (info_of_und ht), Result.andThen_ok, hsz, ne_eq, not_true_eq_false, if_false, Sem.run_ite]
  simpa [wrL] using hst

/-- A store into a box of one's own. -/
theorem Inv.store (hi : Inv n W0 G0 c a w g) {t : TypeId} {i off b : Nat} {l : List AV} {os : List Nat} {x : AV} {y : Value} (ht : (P.underlying t).isSome = true) (hx : x.isAgg = true ∨ x.isLeaf = true)
    (hb : g.bs[c.base + i]? = some b) (hbox : c.own[i]? = some (.cells l os)) (hr : Rep w g.hw g.bs c.base x y) (hsz : x.leaves.length = P.cellsOf t) (hfit : off + x.leaves.length ≤ l.length) :
    ∃ w', (storeVar t ⟨b, off, none⟩ y).run P w = .ok () w' ∧
      Inv n W0 G0 { c with own := c.own.set i (.cells (wrL l off x.leaves) (os.filter fun j => decide (j < off ∨ off + x.leaves.length ≤ j))) } a w' g ∧
      (∀ k, OwnAt w g (.cell (c.base + i) off) k y → (∃ l', x = .sl k l') → Inv n W0 G0 { c with own := c.own.set i (.cells (wrL l off x.leaves) (off :: os.filter fun j => decide (j < off ∨ off + x.leaves.length ≤ j))) } a w' g) := by
  obtain ⟨cs, e, hheap, hrl, hos⟩ := hi.good.own_box hbox hb
  obtain ⟨hc, hcs⟩ := rep_cells hx hr
  have hlen := RepL.length hrl
  simp only [Array.length_toList] at hlen
  have hrun := run_storeVar (P := P) (w := w) (off := off) ht (by rw [hcs]; exact hsz) hheap (by rw [hcs, hlen]; exact hfit) (oneCells hc)
  have W := oneBlk_setRow (cs' := (wrL cs.toList off y.cells.toList).toArray) hheap
  have hmem : c.mem[c.base + i]? = some (.cells l os) := by
    simp only [Cfg.mem, Cfg.base]
    rw [List.getElem?_append_right (by omega)]
    simpa using hbox
  have hset : ∀ x', c.mem.set (c.base + i) x' = c.env ++ c.own.set i x' := fun x' => by
    simp only [Cfg.mem, Cfg.base]
    rw [List.set_append_right _ _ (by omega)]
    simp
  have hL : y.cells.toList.length = x.leaves.length := by simpa using hcs
  have main : ∀ os', (∀ j ∈ os', (j ∈ os ∧ (j < off ∨ off + x.leaves.length ≤ j)) ∨ (∃ k l', j = off ∧ x = .sl k l' ∧ OwnAt w g (.cell (c.base + i) off) k y)) →
      Inv n W0 G0 { c with own := c.own.set i (.cells (wrL l off x.leaves) os') } a (w.setRow b (wrL cs.toList off y.cells.toList).toArray) g := by
    intro os' hos'
    obtain ⟨G', E'⟩ := hi.good.write (x' := .cells (wrL l off x.leaves) os') hmem hb W fun hH hO => by
      refine ⟨_, e, W.blk, ?_, fun j hj => ?_⟩
      · have h1 := RepL.mono hH (fun _ _ h => h) _ _ hrl
        have h2 := RepL.mono hH (fun _ _ h => h) _ _ hc
        rw [show (wrL cs.toList off y.cells.toList).toArray.toList = cs.toList.take off ++ y.cells.toList ++ cs.toList.drop (off + x.leaves.length) from by simp only [wrL, hL]]
        exact ((h1.take off).append h2).append (h1.drop (off + x.leaves.length))
      · rcases hos' j hj with ⟨hj, hjr⟩ | ⟨k, l', rfl, rfl, ho⟩
        · obtain ⟨k, l', v, e1, e2, e3⟩ := hos j hj
          refine ⟨k, l', v, by rw [wrL_get hfit hjr]; exact e1, ?_, e3.mono fun b' e => hO _ b' e⟩
          rw [List.getElem?_toArray, wrL_get (by rw [hL]; simpa [hlen] using hfit) (by rw [hL]; exact hjr)]
          simpa using e2
        · have hlf : (AV.sl k l').leaves = [.sl k l'] := rfl
          have hyc : y.cells.toList = [y] := by
            obtain ⟨a', c', e', _⟩ := rep_sl hr
            subst e'; rfl
          refine ⟨k, l', y, ?_, ?_, ho.mono fun b' e => hO _ b' e⟩
          · rw [hlf]; rw [hlf] at hfit; exact wrL_at (by simp only [List.length_singleton] at hfit; omega)
          · rw [hyc, List.getElem?_toArray]
            rw [hlf] at hfit
            exact wrL_at (by simp only [Array.length_toList, hlen]; simp only [List.length_singleton] at hfit; omega)
    have hi' : Inv n W0 G0 { c with own := c.own.set i (.cells (wrL l off x.leaves) os') } a (w.setRow b (wrL cs.toList off y.cells.toList).toArray) g := by
      refine ⟨hi.size, hi.defers, fun j hj => (hi.fr j hj).mono E'.hw E'.bs, fun j hj => ?_, ?_, hi.ext.trans (E'.weaken (by rintro L rfl; intro i j; simp)), hi.ecl, hi.b0⟩
      · obtain ⟨k, l, h1, h2⟩ := hi.os j hj
        exact ⟨k, l, h1, h2.mono fun b hb => E'.ext b _ hb (by intro i j; simp)⟩
      · have := G'
        rw [hset] at this
        exact this
    exact hi'
  refine ⟨_, hrun, main _ fun j hj => .inl ?_, fun k ho hx' => main _ fun j hj => ?_⟩
  · simpa using hj
  · rcases List.mem_cons.1 hj with rfl | hj
    · obtain ⟨l', hx'⟩ := hx'
      exact .inr ⟨k, l', rfl, hx', ho⟩
    · exact .inl (by simpa using hj)

/-- A box's new content. -/
theorem Inv.writeAt (hi : Inv n W0 G0 c a w g) {q b : Nat} {x x' : Bx} {o : Obj} {w' : World} (hx : c.mem[q]? = some x) (hb : g.bs[q]? = some b) (W : OneBlk w w' b o)
    (hn : HwLe w g.hw w' g.hw → (∀ L b', g.own b' = some L → g.own b' = some L ∧ g.hw b' = g.hw b' ∧ w'.heap[b']? = w.heap[b']?) → RepB w' g c.base q x' b)
    (c' : Cfg) (e1 : c'.fr = c.fr) (e2 : c'.os = c.os) (e3 : c'.mem = c.mem.set q x') (e4 : c'.base = c.base) (e5 : ∀ x ∈ c'.env, Bx.cl c.base 0 x) : Inv n W0 G0 c' a w' g := by
  obtain ⟨G', E'⟩ := hi.good.write (x' := x') hx hb W hn
  refine ⟨hi.size, hi.defers, fun j hj => ?_, fun j hj => ?_, by rw [e3, e4]; exact G', hi.ext.trans (E'.weaken (by rintro L rfl; intro i j; simp)), by rw [e4]; exact e5, by rw [e4]; exact hi.b0⟩
  · rw [e1, e4]; exact (hi.fr j hj).mono E'.hw E'.bs
  · rw [e2] at hj
    rw [e1]
    obtain ⟨k, l, h1, h2⟩ := hi.os j hj
    exact ⟨k, l, h1, h2.mono fun b hb => E'.ext b _ hb (by intro i j; simp)⟩

theorem mem_own {i : Nat} {x : Bx} (h : c.own[i]? = some x) : c.mem[c.base + i]? = some x := by
  simp only [Cfg.mem, Cfg.base]
  rw [List.getElem?_append_right (by omega)]
  simpa using h
theorem mem_env {i : Nat} {x : Bx} (h : c.env[i]? = some x) : c.mem[i]? = some x := by
  simp only [Cfg.mem]
  rw [List.getElem?_append_left (List.getElem?_eq_some_iff.1 h).1]
  exact h
theorem set_own {i : Nat} {x : Bx} : ({ c with own := c.own.set i x } : Cfg).mem = c.mem.set (c.base + i) x := by
  simp only [Cfg.mem, Cfg.base]
  rw [List.set_append_right _ _ (by omega)]
  simp
theorem set_env {i : Nat} {x : Bx} (h : i < c.env.length) : ({ c with env := c.env.set i x } : Cfg).mem = c.mem.set i x := by
  simp only [Cfg.mem]
  rw [List.set_append_left _ _ h]
theorem ecl_set {i : Nat} {x : Bx} (h : ∀ y ∈ c.env, Bx.cl c.base 0 y) (hx : Bx.cl c.base 0 x) : ∀ y ∈ c.env.set i x, Bx.cl c.base 0 y := fun y hy => by
  rcases List.mem_or_eq_of_mem_set hy with h' | rfl
  · exact h y h'
  · exact hx

open Go.MapKept in
theorem findNow_setM {w : World} {hw : Hw} {s : ByteArray} {v : AV} {y : Value} (hv : Rep1 w hw [] 0 v y) : ∀ (l : List (ByteArray × AV)) (es : List MapEntry) (i : Nat), RepM w hw l es →
    (∃ j e, Instr.findNow .string (.string s) es i = some (some (i + j, e.val)) ∧ es[j]? = some e ∧ e.key = .string s ∧ RepM w hw (setM l s v) (es.modify j fun e => { e with key := .string s, val := y })) ∨
    (Instr.findNow .string (.string s) es i = some none ∧ ∀ b, RepM w hw (setM l s v) (es ++ [⟨.string s, y, b⟩]))
  | [], _, i, h => by
    simp only [RepM] at h; subst h
    exact .inr ⟨rfl, fun b => by simp only [setM, RepM, List.nil_append]; exact ⟨_, _, rfl, rfl, hv, rfl⟩⟩
  | (k, x) :: l, _, i, h => by
    simp only [RepM] at h
    obtain ⟨e, es, rfl, hk, hx, hr⟩ := h
    by_cases hs : s = k
    · subst hs
      have hb : (s == s) = true := (bytes_beq s s).2 rfl
      refine .inl ⟨0, e, by simp [Instr.findNow, hk, Instr.sameNow, hb], rfl, hk, ?_⟩
      simp only [setM, if_true, List.modify_zero_cons, RepM]
      exact ⟨_, _, rfl, rfl, hv, hr⟩
    · have hb : (s == k) = false := Bool.eq_false_iff.2 fun h => hs ((bytes_beq s k).1 h)
      rcases findNow_setM hv l es (i + 1) hr with ⟨j, e', h2, h3, h4, h5⟩ | ⟨h2, h5⟩
      · refine .inl ⟨j + 1, e', by simp only [Instr.findNow, hk, Instr.sameNow, hb, h2, show i + 1 + j = i + (j + 1) from by omega], by simpa using h3, h4, ?_⟩
        simp only [setM, if_neg hs, List.modify_succ_cons, RepM]
        exact ⟨_, _, rfl, hk, hx, h5⟩
      · refine .inr ⟨by simp only [Instr.findNow, hk, Instr.sameNow, hb, h2], fun b => ?_⟩
        simp only [setM, if_neg hs, List.cons_append, RepM]
        exact ⟨_, _, rfl, hk, hx, h5 b⟩

open Go.MapKept in
theorem mapUpdate_run {t kt et : TypeId} {b : Nat} {es : Array MapEntry} {clock : Nat} {hw : Hw} {l : List (ByteArray × AV)} {s : ByteArray} {v : AV} {y : Value} (ht : P.underlying t = some (.map kt et)) (hkt : P.underlying kt = some .string)
    (hheap : w.heap[b]? = some (.map es clock)) (hM : RepM w hw l es.toList) (hv : Rep1 w hw [] 0 v y) :
    ∃ es' clock', (Instr.mapUpdate t (.map (some b)) (.string s) y).run P w = .ok () { w with heap := w.heap.setIfInBounds b (.map es' clock') } ∧ RepM w hw (setM l s v) es'.toList := by
  have hck : (Instr.checkKey false 10000 kt (.string s)).run P w = .ok () w := run_checkKey hkt (by simp [IsKey]) false 9999
  rcases findNow_setM (s := s) hv l es.toList 0 hM with ⟨j, e, h2, h3, h4, h5⟩ | ⟨h2, h5⟩
  · have hf := run_findKey (w := w) hkt h2
    have hks : (Instr.keyThatStays (.string s) (.string s)).run P w = .ok (.string s) w := run_keyThatStays (d := .string) (by simp [IsKey])
    have hej : es[j]? = some e := by simpa using h3
    refine ⟨es.modify j fun e => { e with key := .string s, val := y }, clock, ?_, by simpa using h5⟩
    simp only [Instr.mapUpdate, Sem.run_bind, run_und ht, Result.andThen_ok, Go.MapKept.run_getObj_map hheap, hck, hf, Nat.zero_add, hej, Option.map_some, Option.getD_some, h4, hks, Go.MapKept.run_setObj_map _ hheap]
  · have hf := run_findKey (w := w) hkt h2
    refine ⟨es.push ⟨.string s, y, clock⟩, clock + 1, ?_, by simpa using h5 clock⟩
    simp only [Instr.mapUpdate, Sem.run_bind, run_und ht, Result.andThen_ok, Go.MapKept.run_getObj_map hheap, hck, hf, Go.MapKept.run_setObj_map _ hheap]
end
end Go.Ev
end
section
/- Written by this session: stores into any box, and the right to append taken out of one. Conditions: none beyond those in each statement. -/
namespace Go.Ev
open Go

section
variable {n : Nat} {W0 : World} {G0 : Gh} {c : Cfg} {a : Act} {w : World} {g : Gh} {P : Program}

/-- A store into a box, one's own or of the surroundings. -/
theorem Inv.storeAt (hi : Inv n W0 G0 c a w g) {t : TypeId} {q off b : Nat} {l : List AV} {os : List Nat} {x : AV} {y : Value} (ht : (P.underlying t).isSome = true) (hx : x.isAgg = true ∨ x.isLeaf = true)
    (hb : g.bs[q]? = some b) (hbox : c.mem[q]? = some (.cells l os)) (hr : Rep w g.hw g.bs c.base x y) (hsz : x.leaves.length = P.cellsOf t) (hfit : off + x.leaves.length ≤ l.length) :
    ∃ w', (storeVar t ⟨b, off, none⟩ y).run P w = .ok () w' ∧
      ∀ os', (∀ j ∈ os', (j ∈ os ∧ (j < off ∨ off + x.leaves.length ≤ j)) ∨ (∃ k l', j = off ∧ x = .sl k l' ∧ OwnAt w g (.cell q off) k y)) →
      ∀ c' : Cfg, c'.fr = c.fr → c'.os = c.os → c'.mem = c.mem.set q (.cells (wrL l off x.leaves) os') → c'.base = c.base → (∀ x ∈ c'.env, Bx.cl c.base 0 x) → Inv n W0 G0 c' a w' g := by
  obtain ⟨cs, e, hheap, hrl, hos⟩ := hi.good.box q _ b hbox hb
  obtain ⟨hc, hcs⟩ := rep_cells hx hr
  have hlen := RepL.length hrl
  simp only [Array.length_toList] at hlen
  have hrun := run_storeVar (P := P) (w := w) (off := off) ht (by rw [hcs]; exact hsz) hheap (by rw [hcs, hlen]; exact hfit) (oneCells hc)
  have W := oneBlk_setRow (cs' := (wrL cs.toList off y.cells.toList).toArray) hheap
  have hL : y.cells.toList.length = x.leaves.length := by simpa using hcs
  refine ⟨_, hrun, fun os' hos' c' e1 e2 e3 e4 e5 => hi.writeAt hbox hb W (fun hH hO => ?_) c' e1 e2 e3 e4 e5⟩
  refine ⟨_, e, W.blk, ?_, fun j hj => ?_⟩
  · have h1 := RepL.mono hH (fun _ _ h => h) _ _ hrl
    have h2 := RepL.mono hH (fun _ _ h => h) _ _ hc
    rw [show (wrL cs.toList off y.cells.toList).toArray.toList = cs.toList.take off ++ y.cells.toList ++ cs.toList.drop (off + x.leaves.length) from by simp only [wrL, hL]]
    exact ((h1.take off).append h2).append (h1.drop (off + x.leaves.length))
  · rcases hos' j hj with ⟨hj, hjr⟩ | ⟨k, l', rfl, rfl, ho⟩
    · obtain ⟨k, l', v, e1, e2, e3⟩ := hos j hj
      refine ⟨k, l', v, by rw [wrL_get hfit hjr]; exact e1, ?_, e3.mono fun b' e => hO _ b' e⟩
      rw [List.getElem?_toArray, wrL_get (by rw [hL]; simpa [hlen] using hfit) (by rw [hL]; exact hjr)]
      simpa using e2
    · have hlf : (AV.sl k l').leaves = [.sl k l'] := rfl
      have hyc : y.cells.toList = [y] := by
        obtain ⟨a', c', e', _⟩ := rep_sl hr
        subst e'; rfl
      refine ⟨k, l', y, ?_, ?_, ho.mono fun b' e => hO _ b' e⟩
      · rw [hlf]; rw [hlf] at hfit; exact wrL_at (by simp only [List.length_singleton] at hfit; omega)
      · rw [hyc, List.getElem?_toArray]
        rw [hlf] at hfit
        exact wrL_at (by simp only [Array.length_toList, hlen]; simp only [List.length_singleton] at hfit; omega)

/-- The right to append goes out of a box. -/
theorem Inv.takeCell (hi : Inv n W0 G0 c a w g) {q off d : Nat} {l : List AV} {os : List Nat} (hbox : c.mem[q]? = some (.cells l os)) {c' : Cfg} (e1 : c'.fr = c.fr) (e2 : c'.os = c.os)
    (e3 : c'.mem = c.mem.set q (.cells l (os.filter fun j => !Nat.beq j off))) (e4 : c'.base = c.base) (e5 : ∀ x ∈ c'.env, Bx.cl c.base 0 x) :
    let g' : Gh := { g with own := fun b => (g.own b).map (moved (.cell q off) (.slot d)) }
    Inv n W0 G0 c' a w g' ∧ ∀ k y, OwnAt w g (.cell q off) k y → OwnAt w g' (.slot d) k y := by
  have O1 : ∀ L k y, L ≠ .cell q off → OwnAt w g L k y → OwnAt w { g with own := fun b => (g.own b).map (moved (.cell q off) (.slot d)) } L k y := by
    intro L k y hL h
    obtain ⟨a, n, c, e, hn, h⟩ := h
    refine ⟨a, n, c, e, hn, h.imp id ?_⟩
    rintro ⟨b, o, h, cs, e, ea, h1, h2, h3, h4, h5⟩
    exact ⟨b, o, h, cs, e, ea, by simp [h1, moved, hL], h2, h3, h4, h5⟩
  have hql : q < c.mem.length := (List.getElem?_eq_some_iff.1 hbox).1
  refine ⟨⟨hi.size, hi.defers, fun i h => by rw [e1, e4]; exact hi.fr i h, fun i h => ?_, ?_, ?_, by rw [e4]; exact e5, by rw [e4]; exact hi.b0⟩, ?_⟩
  · rw [e2] at h
    rw [e1]
    obtain ⟨k, l, h1, h2⟩ := hi.os i h
    exact ⟨k, l, h1, O1 _ k _ (by simp) h2⟩
  · rw [e3, e4]
    refine ⟨by rw [hi.good.len]; simp, hi.good.nd, hi.good.nohw, fun i x b hx hb => ?_, hi.good.hw, fun b L e => ?_, hi.good.glob⟩
    · by_cases hiq : i = q
      · subst hiq
        rw [List.getElem?_set_self hql] at hx
        cases hx
        obtain ⟨cs, e, h1, h2, h3⟩ := hi.good.box i _ b hbox hb
        exact ⟨cs, e, h1, h2, fun j hj => by
          have hj' := List.mem_filter.1 hj
          have hne : j ≠ off := by rintro rfl; simp at hj'
          obtain ⟨k, l', y, f1, f2, f3⟩ := h3 j hj'.1
          exact ⟨k, l', y, f1, f2, O1 _ k y (by simp [hne]) f3⟩⟩
      · rw [List.getElem?_set_ne (Ne.symm hiq)] at hx
        have := hi.good.box i x b hx hb
        cases x with
        | map l => exact this
        | cells l os =>
          obtain ⟨cs, e, h1, h2, h3⟩ := this
          exact ⟨cs, e, h1, h2, fun j hj => by
            obtain ⟨k, l', y, f1, f2, f3⟩ := h3 j hj
            exact ⟨k, l', y, f1, f2, O1 _ k y (by simp [hiq]) f3⟩⟩
    · simp only [Option.map_eq_some_iff] at e
      obtain ⟨L', e, _⟩ := e
      exact hi.good.own b L' e
  · have E := hi.ext
    refine ⟨E.size, E.tape, E.os, E.output, E.hw, fun b L e hk => ?_, E.bs, E.bsnew, fun b hb L e => ?_, E.old⟩
    · obtain ⟨h1, h2, h3⟩ := E.ext b L e hk
      subst hk
      exact ⟨by simp [h1, moved], h2, h3⟩
    · simp only [Option.map_eq_some_iff] at e
      obtain ⟨L', e, rfl⟩ := e
      obtain ⟨L'', e', he⟩ := E.orig b hb L' e
      refine ⟨L'', e', fun hk => ?_⟩
      have := he hk
      subst this hk
      simp [moved]
  · intro k y h
    obtain ⟨a, n, c, e, hn, h⟩ := h
    refine ⟨a, n, c, e, hn, h.imp id ?_⟩
    rintro ⟨b, o, h, cs, e, ea, h1, h2, h3, h4, h5⟩
    exact ⟨b, o, h, cs, e, ea, by simp [h1, moved], h2, h3, h4, h5⟩
end
end Go.Ev
end
