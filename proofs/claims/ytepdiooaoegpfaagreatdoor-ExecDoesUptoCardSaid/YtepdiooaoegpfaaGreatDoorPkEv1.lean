/- Written by programs of this session: laws and contracts that the law's proof stands on, merged into one text. Conditions: none beyond those in each statement. -/
import Derived.Lib.LaidTab
import Derived.Lib.ItoaMem
import Derived.Orders
import Derived.Below
import Derived.Tactics
import Derived.KernelRfl
import Derived.Laws.Sem
import Derived.Deep.LoopGhost
section
/- The package variables that calls of Go's library read, and what lies in them. Conditions: none. -/
namespace Go.Ev
open Go
def IsErr (vs : List Value) : Prop := ∃ t p, vs = [.iface t p]
def globP : List (Nat × (List Value → Prop)) := [(3, fun vs => vs = Lib.pow10Tab.map fun z => Value.int .u64 z), (1, IsErr), (2, IsErr)]
end Go.Ev
end
section
/- Written by this session: what values of Go are as trees, and how memory bears them. Conditions: none beyond those in each statement. -/
namespace Go.Ev
open Go

inductive AV where
  | top
  | v (x : Value)
  | sl (k : Nat) (l : List AV)
  | agg (l : List AV)
  | tup (l : List AV)
  | bp (i off : Nat)
  | xp (i off : Nat)
  | mo (i : Nat)
  | mx (i : Nat)
  | bs (i off k n c : Nat)
  | xs (i off k n c : Nat)
  | gv (b : Bool) (x : AV)
  | ep (l : List AV)
  | fn (f : Fn) (first cap : List AV)
  | ifc (t : TypeId) (x : AV)
  deriving Inhabited

def AV.isAgg : AV → Bool | .agg _ => true | _ => false
def VisAgg : Value → Bool | .agg _ => true | _ => false
theorem visAgg_of {v : Value} (h : v.oneCell' = true) : VisAgg v = false := by cases v <;> simp_all [VisAgg, Value.oneCell']
abbrev Hw := Nat → Option Nat

def Cells (w : World) (hw : Hw) (b o : Nat) (vs : List Value) : Prop :=
  ∃ h, hw b = some h ∧ o + vs.length ≤ h ∧ ∀ j v, vs[j]? = some v → w.cell? ⟨b, o + j, none⟩ = some v

/-- A slice's elements have cells, and are no more than memory bears. -/
def SlAt (vs : List Value) (b off k n c : Nat) : Prop := 0 < k ∧ n ≤ c ∧ c ≤ 9223372036854775807 ∧ vs = [.slice (some ⟨b, off, none⟩) n c]
def Fits (k : Nat) (l : List AV) : Prop := 0 < k ∧ l.length ≤ 140737488355328

mutual
def RepV (w : World) (hw : Hw) (bs : List Nat) (base : Nat) : AV → List Value → Prop
  | .top, vs => ∃ v, vs = [v]
  | .v x, vs => vs = [x]
  | .sl k l, vs => ∃ a c, vs = [.slice a l.length c] ∧ l.length ≤ c ∧ Fits k l ∧ (l = [] ∨ ∃ b o cs, a = some ⟨b, o, none⟩ ∧ Cells w hw b o cs ∧ RepE w hw k l cs)
  | .agg l, vs => RepL w hw bs base l vs
  | .tup _, _ => False
  | .bp i off, vs => ∃ b, bs[base + i]? = some b ∧ vs = [.pointer (some ⟨b, off, none⟩)]
  | .xp i off, vs => i < base ∧ ∃ b, bs[i]? = some b ∧ vs = [.pointer (some ⟨b, off, none⟩)]
  | .mo i, vs => ∃ b, bs[base + i]? = some b ∧ vs = [.map (some b)]
  | .mx i, vs => i < base ∧ ∃ b, bs[i]? = some b ∧ vs = [.map (some b)]
  | .bs i off k n c, vs => ∃ b, bs[base + i]? = some b ∧ SlAt vs b off k n c
  | .xs i off k n c, vs => i < base ∧ ∃ b, bs[i]? = some b ∧ SlAt vs b off k n c
  | .gv b x, vs => ∃ v, vs = [v] ∧ (b = false → v = undef) ∧ (b = true → (x.isAgg = false ∧ v.oneCell' = true) ∧ RepV w hw [] 0 x [v])
  | .ep l, vs => ∃ b o cs, vs = [.pointer (some ⟨b, o, none⟩)] ∧ Cells w hw b o cs ∧ RepL w hw [] 0 l cs
  | .fn f first cap, vs => ∃ fs cs, vs = [.func f fs cs] ∧ RepL w hw bs base first fs.toList ∧ RepL w hw bs base cap cs.toList
  | .ifc t x, vs => ∃ u, vs = [.iface t u] ∧ RepV w hw [] 0 x u.cells.toList ∧ VisAgg u = x.isAgg
def RepL (w : World) (hw : Hw) (bs : List Nat) (base : Nat) : List AV → List Value → Prop
  | [], vs => vs = []
  | x :: xs, vs => ∃ v vs', vs = v :: vs' ∧ (RepV w hw bs base x [v] ∧ x.isAgg = false ∧ v.oneCell' = true) ∧ RepL w hw bs base xs vs'
def RepE (w : World) (hw : Hw) (k : Nat) : List AV → List Value → Prop
  | [], vs => vs = []
  | x :: xs, vs => k ≤ vs.length ∧ (RepV w hw [] 0 x (vs.take k) ∧ (x.isAgg = false → ∀ v ∈ vs.take k, v.oneCell' = true)) ∧ RepE w hw k xs (vs.drop k)
end

/-- What was known of array cells is known still. -/
def HwLe (w : World) (hw : Hw) (w' : World) (hw' : Hw) : Prop :=
  ∀ b h, hw b = some h → ∃ h', hw' b = some h' ∧ h ≤ h' ∧ ∀ o, o < h ∨ w.cell? ⟨b, o, none⟩ = none → w'.cell? ⟨b, o, none⟩ = w.cell? ⟨b, o, none⟩

theorem HwLe.refl (w : World) (hw : Hw) : HwLe w hw w hw := fun _ h e => ⟨h, e, Nat.le_refl _, fun _ _ => rfl⟩
theorem HwLe.trans {w1 w2 w3 : World} {h1 h2 h3 : Hw} (a : HwLe w1 h1 w2 h2) (b : HwLe w2 h2 w3 h3) : HwLe w1 h1 w3 h3 := fun n h e => by
  obtain ⟨h', e', le, c⟩ := a n h e
  obtain ⟨h'', e'', le', c'⟩ := b n h' e'
  exact ⟨h'', e'', Nat.le_trans le le', fun o ho => (c' o (ho.imp (fun ho => Nat.lt_of_lt_of_le ho le) fun hn => (c o (.inr hn)).trans hn)).trans (c o ho)⟩

theorem Cells.mono {w w' : World} {hw hw' : Hw} {b o : Nat} {vs : List Value} (H : HwLe w hw w' hw') (h : Cells w hw b o vs) : Cells w' hw' b o vs := by
  obtain ⟨n, e, le, c⟩ := h
  obtain ⟨n', e', le', c'⟩ := H b n e
  refine ⟨n', e', Nat.le_trans le le', fun j v hj => ?_⟩
  have hl : j < vs.length := by
    rcases Nat.lt_or_ge j vs.length with h | h
    · exact h
    · rw [List.getElem?_eq_none h] at hj; cases hj
  rw [c' _ (.inl (by omega))]
  exact c j v hj

mutual
theorem RepV.mono {w w' : World} {hw hw' : Hw} (H : HwLe w hw w' hw') {bs bs' : List Nat} {base : Nat} (B : ∀ (i b : Nat), bs[i]? = some b → bs'[i]? = some b) :
    ∀ (a : AV) (vs : List Value), RepV w hw bs base a vs → RepV w' hw' bs' base a vs
  | .top, _, h => by simpa only [RepV] using h
  | .v x, _, h => by simpa only [RepV] using h
  | .sl k l, _, h => by
    simp only [RepV] at h ⊢
    obtain ⟨a, c, e, hc, hk, h⟩ := h
    refine ⟨a, c, e, hc, hk, h.imp id ?_⟩
    rintro ⟨b, o, cs, ea, hcs, hr⟩
    exact ⟨b, o, cs, ea, hcs.mono H, RepE.mono H l cs hr⟩
  | .agg l, vs, h => by simp only [RepV] at h ⊢; exact RepL.mono H B l vs h
  | .tup _, _, h => by simp only [RepV] at h
  | .bp i off, _, h => by simp only [RepV] at h ⊢; obtain ⟨b, e, r⟩ := h; exact ⟨b, B _ _ e, r⟩
  | .xp i off, _, h => by simp only [RepV] at h ⊢; obtain ⟨hi, b, e, r⟩ := h; exact ⟨hi, b, B _ _ e, r⟩
  | .mo i, _, h => by simp only [RepV] at h ⊢; obtain ⟨b, e, r⟩ := h; exact ⟨b, B _ _ e, r⟩
  | .mx i, _, h => by simp only [RepV] at h ⊢; obtain ⟨hi, b, e, r⟩ := h; exact ⟨hi, b, B _ _ e, r⟩
  | .bs .., _, h => by simp only [RepV] at h ⊢; obtain ⟨b, e, r⟩ := h; exact ⟨b, B _ _ e, r⟩
  | .xs .., _, h => by simp only [RepV] at h ⊢; obtain ⟨hi, b, e, r⟩ := h; exact ⟨hi, b, B _ _ e, r⟩
  | .gv b x, _, h => by simp only [RepV] at h ⊢; obtain ⟨v, e, q, r⟩ := h; exact ⟨v, e, q, fun hb => ⟨(r hb).1, RepV.mono H (fun _ _ h => h) x _ (r hb).2⟩⟩
  | .ep l, _, h => by
    simp only [RepV] at h ⊢
    obtain ⟨b, o, cs, e, hcs, hr⟩ := h
    exact ⟨b, o, cs, e, hcs.mono H, RepL.mono H (fun _ _ h => h) l cs hr⟩
  | .fn f first cap, _, h => by
    simp only [RepV] at h ⊢
    obtain ⟨fs, cs, e, h1, h2⟩ := h
    exact ⟨fs, cs, e, RepL.mono H B first _ h1, RepL.mono H B cap _ h2⟩
  | .ifc t x, _, h => by
    simp only [RepV] at h ⊢
    obtain ⟨u, e, h1, h2⟩ := h
    exact ⟨u, e, RepV.mono H (fun _ _ h => h) x _ h1, h2⟩
theorem RepL.mono {w w' : World} {hw hw' : Hw} (H : HwLe w hw w' hw') {bs bs' : List Nat} {base : Nat} (B : ∀ (i b : Nat), bs[i]? = some b → bs'[i]? = some b) :
    ∀ (l : List AV) (vs : List Value), RepL w hw bs base l vs → RepL w' hw' bs' base l vs
  | [], _, h => by simpa only [RepL] using h
  | x :: xs, _, h => by
    simp only [RepL] at h ⊢
    obtain ⟨v, vs', e, h1, h2⟩ := h
    exact ⟨v, vs', e, ⟨RepV.mono H B x _ h1.1, h1.2⟩, RepL.mono H B xs _ h2⟩
theorem RepE.mono {w w' : World} {hw hw' : Hw} (H : HwLe w hw w' hw') {k : Nat} :
    ∀ (l : List AV) (vs : List Value), RepE w hw k l vs → RepE w' hw' k l vs
  | [], _, h => by simpa only [RepE] using h
  | x :: xs, _, h => by
    simp only [RepE] at h ⊢
    obtain ⟨h0, h1, h2⟩ := h
    exact ⟨h0, ⟨RepV.mono H (fun _ _ h => h) x _ h1.1, h1.2⟩, RepE.mono H xs _ h2⟩
end

mutual
theorem RepV.lift {w : World} {hw : Hw} {bs : List Nat} {base : Nat} : ∀ (a : AV) (vs : List Value), RepV w hw [] 0 a vs → RepV w hw bs base a vs
  | .top, _, h => by simpa only [RepV] using h
  | .v x, _, h => by simpa only [RepV] using h
  | .sl k l, _, h => by simpa only [RepV] using h
  | .agg l, vs, h => by simp only [RepV] at h ⊢; exact RepL.lift l vs h
  | .tup _, _, h => by simp only [RepV] at h
  | .bp i off, _, h => by simp only [RepV] at h; obtain ⟨b, e, _⟩ := h; simp at e
  | .xp i off, _, h => by simp only [RepV] at h; exact absurd h.1 (by omega)
  | .mo i, _, h => by simp only [RepV] at h; obtain ⟨b, e, _⟩ := h; simp at e
  | .mx i, _, h => by simp only [RepV] at h; exact absurd h.1 (by omega)
  | .bs .., _, h => by simp only [RepV] at h; obtain ⟨b, e, _⟩ := h; simp at e
  | .xs .., _, h => by simp only [RepV] at h; exact absurd h.1 (by omega)
  | .ep l, _, h => by simpa only [RepV] using h
  | .fn f first cap, _, h => by
    simp only [RepV] at h ⊢
    obtain ⟨fs, cs, e, h1, h2⟩ := h
    exact ⟨fs, cs, e, RepL.lift first _ h1, RepL.lift cap _ h2⟩
  | .ifc t x, _, h => by simpa only [RepV] using h
  | .gv .., _, h => by simpa only [RepV] using h
theorem RepL.lift {w : World} {hw : Hw} {bs : List Nat} {base : Nat} : ∀ (l : List AV) (vs : List Value), RepL w hw [] 0 l vs → RepL w hw bs base l vs
  | [], _, h => by simpa only [RepL] using h
  | x :: xs, _, h => by
    simp only [RepL] at h ⊢
    obtain ⟨v, vs', e, h1, h2⟩ := h
    exact ⟨v, vs', e, ⟨RepV.lift x _ h1.1, h1.2⟩, RepL.lift xs _ h2⟩
end

/-- A value as a tree (no tuple). -/
def Rep1 (w : World) (hw : Hw) (bs : List Nat) (base : Nat) (a : AV) (y : Value) : Prop := a = .top ∨ (RepV w hw bs base a y.cells.toList ∧ VisAgg y = a.isAgg)
def RepT (w : World) (hw : Hw) (bs : List Nat) (base : Nat) : List AV → List Value → Prop
  | [], vs => vs = []
  | x :: xs, vs => ∃ v vs', vs = v :: vs' ∧ Rep1 w hw bs base x v ∧ RepT w hw bs base xs vs'
def Rep (w : World) (hw : Hw) (bs : List Nat) (base : Nat) (a : AV) (y : Value) : Prop :=
  match a with
  | .tup l => ∃ vs, y = .tuple vs ∧ RepT w hw bs base l vs.toList
  | a => Rep1 w hw bs base a y

section
variable {w w' : World} {hw hw' : Hw} (H : HwLe w hw w' hw') {bs bs' : List Nat} {base : Nat} (B : ∀ (i b : Nat), bs[i]? = some b → bs'[i]? = some b)
include H B
theorem Rep1.mono {a : AV} {y : Value} (h : Rep1 w hw bs base a y) : Rep1 w' hw' bs' base a y := h.imp id fun ⟨h1, h2⟩ => ⟨RepV.mono H B _ _ h1, h2⟩
theorem RepT.mono : ∀ (l : List AV) (vs : List Value), RepT w hw bs base l vs → RepT w' hw' bs' base l vs
  | [], _, h => h
  | x :: xs, _, h => by
    simp only [RepT] at h ⊢
    obtain ⟨v, vs', e, h1, h2⟩ := h
    exact ⟨v, vs', e, h1.mono H B, RepT.mono xs _ h2⟩
theorem Rep.mono {a : AV} {y : Value} (h : Rep w hw bs base a y) : Rep w' hw' bs' base a y := by
  cases a with
  | tup l => obtain ⟨vs, e, h⟩ := h; exact ⟨vs, e, RepT.mono H B l _ h⟩
  | _ => exact Rep1.mono H B h
end

theorem Rep1.lift {w : World} {hw : Hw} {bs : List Nat} {base : Nat} {a : AV} {y : Value} (h : Rep1 w hw [] 0 a y) : Rep1 w hw bs base a y := h.imp id fun ⟨h1, h2⟩ => ⟨RepV.lift _ _ h1, h2⟩
theorem RepT.lift {w : World} {hw : Hw} {bs : List Nat} {base : Nat} : ∀ (l : List AV) (vs : List Value), RepT w hw [] 0 l vs → RepT w hw bs base l vs
  | [], _, h => h
  | x :: xs, _, h => by
    simp only [RepT] at h ⊢
    obtain ⟨v, vs', e, h1, h2⟩ := h
    exact ⟨v, vs', e, h1.lift, RepT.lift xs _ h2⟩
theorem Rep.lift {w : World} {hw : Hw} {bs : List Nat} {base : Nat} {a : AV} {y : Value} (h : Rep w hw [] 0 a y) : Rep w hw bs base a y := by
  cases a with
  | tup l => obtain ⟨vs, e, h⟩ := h; exact ⟨vs, e, RepT.lift l _ h⟩
  | _ => exact Rep1.lift h

inductive Loc where
  | slot (i : Nat)
  | cell (i j : Nat)
  | ext
  deriving DecidableEq

structure Gh where
  bs : List Nat
  hw : Hw
  own : Nat → Option Loc

/-- The slice in this place is at the end of what is known of its block, and no other place may write behind it. -/
def OwnAt (w : World) (g : Gh) (L : Loc) (k : Nat) (y : Value) : Prop :=
  ∃ a n c, y = .slice a n c ∧ n ≤ c ∧ (c = 0 ∨ ∃ b o h cs e, a = some ⟨b, o, none⟩ ∧ g.own b = some L ∧ g.hw b = some h ∧ o + n * k = h ∧ w.heap[b]? = some (.cells cs e (0, 0)) ∧ o + c * k ≤ cs.size)

inductive Bx where
  | cells (l : List AV) (os : List Nat)
  | map (l : List (ByteArray × AV))
  deriving Inhabited

def RepM (w : World) (hw : Hw) : List (ByteArray × AV) → List MapEntry → Prop
  | [], es => es = []
  | (k, x) :: l, es => ∃ e es', es = e :: es' ∧ e.key = .string k ∧ Rep1 w hw [] 0 x e.val ∧ RepM w hw l es'

theorem RepM.mono {w w' : World} {hw hw' : Hw} (H : HwLe w hw w' hw') : ∀ (l : List (ByteArray × AV)) (es : List MapEntry), RepM w hw l es → RepM w' hw' l es
  | [], _, h => h
  | (k, x) :: l, _, h => by
    simp only [RepM] at h ⊢
    obtain ⟨e, es', r, h1, h2, h3⟩ := h
    exact ⟨e, es', r, h1, h2.mono H (fun _ _ h => h), RepM.mono H l _ h3⟩

def RepB (w : World) (g : Gh) (base i : Nat) (x : Bx) (b : Nat) : Prop :=
  match x with
  | .cells l os => ∃ cs e, w.heap[b]? = some (.cells cs e (0, 0)) ∧ RepL w g.hw g.bs base l cs.toList ∧
      ∀ j ∈ os, ∃ k l' y, l[j]? = some (.sl k l') ∧ cs[j]? = some y ∧ OwnAt w g (.cell i j) k y
  | .map l => ∃ es n, w.heap[b]? = some (.map es n) ∧ RepM w g.hw l es.toList

/-- The package variables that are read, and what lies in them (of the seat: written by its program). -/
def globs : List (Nat × List AV) := []
def globA (g : Nat) : AV :=
  match globs.find? fun p => Nat.beq p.1 g with
  | some p => .ep p.2
  | none => .top
/-- A block whose cells are all known. -/
def Whole (w : World) (hw : Hw) (b : Nat) (vs : List Value) : Prop := ∃ h, hw b = some h ∧ vs.length ≤ h ∧ ∀ j, w.cell? ⟨b, j, none⟩ = vs[j]?
theorem Whole.mono {w w' : World} {hw hw' : Hw} (H : HwLe w hw w' hw') {b : Nat} {vs : List Value} (h : Whole w hw b vs) : Whole w' hw' b vs := by
  obtain ⟨n, e, le, c⟩ := h
  obtain ⟨n', e', le', c'⟩ := H b n e
  refine ⟨n', e', Nat.le_trans le le', fun j => ?_⟩
  rw [c' j ?_]
  · exact c j
  · rcases Nat.lt_or_ge j vs.length with h | h
    · exact .inl (by omega)
    · exact .inr ((c j).trans (List.getElem?_eq_none h))
def GlobOk (w : World) (hw : Hw) : Prop := (∀ p ∈ globs, ∃ cs, Cells w hw p.1 0 cs ∧ RepL w hw [] 0 p.2 cs) ∧ ∀ p ∈ globP, ∃ vs, p.2 vs ∧ Whole w hw p.1 vs
theorem GlobOk.mono {w w' : World} {hw hw' : Hw} (H : HwLe w hw w' hw') (h : GlobOk w hw) : GlobOk w' hw' := ⟨fun p hp => by
  obtain ⟨cs, h1, h2⟩ := h.1 p hp
  exact ⟨cs, h1.mono H, RepL.mono H (fun _ _ h => h) _ _ h2⟩, fun p hp => by
  obtain ⟨vs, h1, h2⟩ := h.2 p hp
  exact ⟨vs, h1, h2.mono H⟩⟩

structure Good (w : World) (g : Gh) (mem : List Bx) (base : Nat) : Prop where
  len : g.bs.length = mem.length
  nd : g.bs.Nodup
  nohw : ∀ b ∈ g.bs, g.hw b = none
  box : ∀ i x b, mem[i]? = some x → g.bs[i]? = some b → RepB w g base i x b
  hw : ∀ b h, g.hw b = some h → ∃ cs e f, w.heap[b]? = some (.cells cs e f) ∧ h ≤ cs.size
  own : ∀ b L, g.own b = some L → ∃ h, g.hw b = some h
  glob : GlobOk w g.hw

structure Ext (keep : Loc → Prop) (w : World) (g : Gh) (w' : World) (g' : Gh) : Prop where
  size : w.heap.size ≤ w'.heap.size
  tape : w'.tape = w.tape
  os : w'.os = w.os
  output : w'.output = w.output
  hw : HwLe w g.hw w' g'.hw
  ext : ∀ (b : Nat) (L : Loc), g.own b = some L → keep L → g'.own b = some L ∧ g'.hw b = g.hw b ∧ w'.heap[b]? = w.heap[b]?
  bs : ∀ (i b : Nat), g.bs[i]? = some b → g'.bs[i]? = some b
  bsnew : ∀ b ∈ g'.bs, b ∈ g.bs ∨ w.heap.size ≤ b
  orig : ∀ b, b < w.heap.size → ∀ L, g'.own b = some L → ∃ L', g.own b = some L' ∧ (keep L' → L = L')
  old : ∀ b, b < w.heap.size → b ∉ g.bs → (∀ L, g.own b = some L → keep L) → w'.heap[b]? = w.heap[b]?

theorem Ext.refl (keep : Loc → Prop) (w : World) (g : Gh) : Ext keep w g w g :=
  ⟨Nat.le_refl _, rfl, rfl, rfl, HwLe.refl _ _, fun _ _ h _ => ⟨h, rfl, rfl⟩, fun _ _ h => h, fun _ h => .inl h, fun _ _ L h => ⟨L, h, fun _ => rfl⟩, fun _ _ _ _ => rfl⟩

theorem Ext.trans {keep : Loc → Prop} {w1 w2 w3 : World} {g1 g2 g3 : Gh} (a : Ext keep w1 g1 w2 g2) (b : Ext keep w2 g2 w3 g3) : Ext keep w1 g1 w3 g3 where
  size := Nat.le_trans a.size b.size
  tape := b.tape.trans a.tape
  os := b.os.trans a.os
  output := b.output.trans a.output
  hw := a.hw.trans b.hw
  ext n L h k := by
    obtain ⟨h1, h2, h3⟩ := a.ext n L h k
    obtain ⟨k1, k2, k3⟩ := b.ext n L h1 k
    exact ⟨k1, k2.trans h2, k3.trans h3⟩
  bs i n h := b.bs i n (a.bs i n h)
  bsnew n h := by
    rcases b.bsnew n h with h | h
    · exact a.bsnew n h
    · exact .inr (Nat.le_trans a.size h)
  orig n hn L h := by
    obtain ⟨L', h', e'⟩ := b.orig n (Nat.lt_of_lt_of_le hn a.size) L h
    obtain ⟨L'', h'', e''⟩ := a.orig n hn L' h'
    exact ⟨L'', h'', fun k => by have := e'' k; subst this; exact e' k⟩
  old n hn hb ho := by
    rw [b.old n (Nat.lt_of_lt_of_le hn a.size) ?_ ?_, a.old n hn hb ho]
    · intro h
      rcases a.bsnew n h with h | h
      · exact hb h
      · omega
    · intro L h
      obtain ⟨L', h', e'⟩ := a.orig n hn L h
      have hk := ho L' h'
      rw [e' hk]; exact hk

theorem Ext.weaken {keep keep' : Loc → Prop} (hk : ∀ L, keep' L → keep L) {w w' : World} {g g' : Gh} (a : Ext keep w g w' g') : Ext keep' w g w' g' where
  size := a.size
  tape := a.tape
  os := a.os
  output := a.output
  hw := a.hw
  ext n L h k := a.ext n L h (hk L k)
  bs := a.bs
  bsnew := a.bsnew
  orig n hn L h := by
    obtain ⟨L', h', e'⟩ := a.orig n hn L h
    exact ⟨L', h', fun k => e' (hk _ k)⟩
  old n hn hb ho := a.old n hn hb fun L h => hk L (ho L h)

theorem OwnAt.mono {w w' : World} {g g' : Gh} {L : Loc} {k : Nat} {y : Value} (h : OwnAt w g L k y)
    (H : ∀ b, g.own b = some L → g'.own b = some L ∧ g'.hw b = g.hw b ∧ w'.heap[b]? = w.heap[b]?) : OwnAt w' g' L k y := by
  obtain ⟨a, n, c, e, hn, h⟩ := h
  refine ⟨a, n, c, e, hn, h.imp id ?_⟩
  rintro ⟨b, o, h, cs, e, ea, h1, h2, h3, h4, h5⟩
  obtain ⟨k1, k2, k3⟩ := H b h1
  exact ⟨b, o, h, cs, e, ea, k1, k2.trans h2, h3, k3.trans h4, h5⟩

end Go.Ev
end
section
/- Written by this session: proofs of Go code over trees: a frame of trees, the rules of control. Conditions: none beyond those in each statement. -/
namespace Go.Ev
open Go

abbrev Fr := List (Nat × AV)
def Fr.get : Fr → Nat → AV
  | [], _ => .top
  | (j, x) :: r, i => bif Nat.beq j i then x else Fr.get r i

theorem Fr.get_cons (j : Nat) (x : AV) (r : Fr) (i : Nat) : Fr.get ((j, x) :: r) i = if j = i then x else Fr.get r i := by
  by_cases h : j = i
  · subst h; simp [Fr.get]
  · have : Nat.beq j i = false := Bool.eq_false_iff.2 fun e => h (Nat.eq_of_beq_eq_true e)
    simp [Fr.get, this, h]

structure Cfg where
  fr : Fr
  os : List Nat
  own : List Bx
  env : List Bx

def Cfg.put (c : Cfg) (d : Option Nat) (x : AV) : Cfg :=
  match d with
  | some d => match c with
    | ⟨fr, os, own, env⟩ => ⟨(d, x) :: fr, os.filter fun i => !Nat.beq i d, own, env⟩
  | none => c

/-- The tree is seen before it is used. -/
def forceV0 (x : AV) (K : AV → Prop) : Prop :=
  match x with
  | .top => K .top
  | .v y => K (.v y)
  | .sl k l => K (.sl k l)
  | .agg l => K (.agg l)
  | .tup l => K (.tup l)
  | .bp i o => K (.bp i o)
  | .xp i o => K (.xp i o)
  | .mo i => K (.mo i)
  | .mx i => K (.mx i)
  | .bs i o k n c => K (.bs i o k n c)
  | .xs i o k n c => K (.xs i o k n c)
  | .ep l => K (.ep l)
  | .fn f a b => K (.fn f a b)
  | .ifc t x => K (.ifc t x)
  | .gv b x => K (.gv b x)
def forceV (x : AV) (K : AV → Prop) : Prop :=
  match x with
  | .top => K .top
  | .v y => K (.v y)
  | .sl k l => K (.sl k l)
  | .agg l => K (.agg l)
  | .tup l => K (.tup l)
  | .bp i o => K (.bp i o)
  | .xp i o => K (.xp i o)
  | .mo i => K (.mo i)
  | .mx i => K (.mx i)
  | .bs i o k n c => K (.bs i o k n c)
  | .xs i o k n c => K (.xs i o k n c)
  | .ep l => K (.ep l)
  | .fn f a b => K (.fn f a b)
  | .ifc t x => K (.ifc t x)
  | .gv b x => forceV0 x fun x' => K (.gv b x')
theorem forceV0_iff (x : AV) (K : AV → Prop) : forceV0 x K ↔ K x := by cases x <;> exact Iff.rfl
theorem forceV_iff (x : AV) (K : AV → Prop) : forceV x K ↔ K x := by
  cases x
  case gv b x => exact forceV0_iff x fun x' => K (.gv b x')
  all_goals exact Iff.rfl
def forceN (l : List Nat) (K : List Nat → Prop) : Prop :=
  match l with
  | [] => K []
  | a :: r => forceN r fun r' => K (a :: r')
theorem forceN_iff : ∀ (l : List Nat) (K : List Nat → Prop), forceN l K ↔ K l
  | [], _ => Iff.rfl
  | a :: r, K => forceN_iff r fun r' => K (a :: r')
def forceO (l : List Bx) (K : List Bx → Prop) : Prop :=
  match l with
  | [] => K []
  | .cells a b :: r => forceO r fun r' => K (.cells a b :: r')
  | .map a :: r => forceO r fun r' => K (.map a :: r')
theorem forceO_iff : ∀ (l : List Bx) (K : List Bx → Prop), forceO l K ↔ K l
  | [], _ => Iff.rfl
  | .cells a b :: r, K => forceO_iff r fun r' => K (.cells a b :: r')
  | .map a :: r, K => forceO_iff r fun r' => K (.map a :: r')

/-- The configuration is seen before it is used. -/
def normA (c : Cfg) (K : Cfg → Prop) : Prop :=
  match c with
  | ⟨fr, os, own, env⟩ => forceN os fun os => forceO own fun own => match fr with
    | [] => K ⟨[], os, own, env⟩
    | (i, x) :: r => forceV x fun x' => K ⟨(i, x') :: r, os, own, env⟩
theorem normA_iff (c : Cfg) (K : Cfg → Prop) : normA c K ↔ K c := by
  obtain ⟨fr, os, own, env⟩ := c
  unfold normA
  simp only [forceN_iff, forceO_iff]
  cases fr with
  | nil => exact Iff.rfl
  | cons p r => obtain ⟨i, x⟩ := p; exact forceV_iff x _

def Cfg.base (c : Cfg) : Nat := c.env.length
def Cfg.mem (c : Cfg) : List Bx := c.env ++ c.own

mutual
/-- Own boxes below m alone, boxes of the surroundings below base alone. -/
def AV.cl (base m : Nat) : AV → Prop
  | .bp i _ | .mo i | .bs i _ _ _ _ => i < m
  | .xp i _ | .mx i | .xs i _ _ _ _ => i < base
  | .agg l => clL base m l
  | .fn _ a b => clL base m a ∧ clL base m b
  | .tup l => clL base m l
  | _ => True
def clL (base m : Nat) : List AV → Prop
  | [] => True
  | x :: xs => AV.cl base m x ∧ clL base m xs
end

def Bx.cl (base m : Nat) : Bx → Prop
  | .cells l _ => clL base m l
  | .map _ => True

structure Inv (n : Nat) (W0 : World) (G0 : Gh) (c : Cfg) (a : Act) (w : World) (g : Gh) : Prop where
  size : a.tmps.size = n
  defers : a.defers = []
  fr : ∀ i, i < n → Rep w g.hw g.bs c.base (Fr.get c.fr i) (a.tmps.getD i undef)
  os : ∀ i ∈ c.os, ∃ k l, Fr.get c.fr i = .sl k l ∧ OwnAt w g (.slot i) k (a.tmps.getD i undef)
  good : Good w g c.mem c.base
  ext : Ext (· = .ext) W0 G0 w g
  ecl : ∀ x ∈ c.env, Bx.cl c.base 0 x
  b0 : G0.bs.length = c.base

structure XW (P : Program) (n : Nat) (cd : Code) (Q : Exit → Cfg → Prop) (c : Cfg) : Prop where
  run : ∀ W0 G0 a w g, Inv n W0 G0 c a w g → cd.wp P (fun e a' w' => ∃ c' g', Q e c' ∧ Inv n W0 G0 c' a' w' g') a w

/-- c' says no more than c. -/
def Weak (n : Nat) (c c' : Cfg) : Prop := ∀ W0 G0 a w g, Inv n W0 G0 c a w g → ∃ g', Inv n W0 G0 c' a w g'

section
variable {P : Program} {n : Nat} {Q : Exit → Cfg → Prop} {c : Cfg}

theorem Weak.refl : Weak n c c := fun _ _ _ _ g h => ⟨g, h⟩
theorem Weak.trans {c1 c2 c3 : Cfg} (a : Weak n c1 c2) (b : Weak n c2 c3) : Weak n c1 c3 := fun W0 G0 x w g h => by
  obtain ⟨g', h'⟩ := a W0 G0 x w g h
  exact b W0 G0 x w g' h'

theorem XW.mono {cd : Code} {Q' : Exit → Cfg → Prop} (h : XW P n cd Q c) (hq : ∀ e c, Q e c → Q' e c) : XW P n cd Q' c := ⟨fun W0 G0 a w g hi =>
  wp_mono (h.run W0 G0 a w g hi) fun e _ _ ⟨c', g', q, i⟩ => ⟨c', g', hq e c' q, i⟩⟩

theorem XW.skip (h : Q .normal c) : XW P n .skip Q c := ⟨fun _ _ _ _ g hi => wp_skip ⟨c, g, h, hi⟩⟩
theorem XW.label {l : Nat} (h : Q .normal c) : XW P n (.label l) Q c := ⟨fun _ _ _ _ g hi => wp_label ⟨c, g, h, hi⟩⟩
theorem XW.exit {id : Nat} (h : Q (.exit id) c) : XW P n (.exit id) Q c := ⟨fun _ _ _ _ g hi => wp_exit ⟨c, g, h, hi⟩⟩
theorem XW.ret (h : Q .ret c) : XW P n .ret Q c := ⟨fun _ _ _ _ g hi => wp_ret ⟨c, g, h, hi⟩⟩

def Then (K : Cfg → Prop) (Q : Exit → Cfg → Prop) : Exit → Cfg → Prop
  | .normal, c => K c
  | e, c => Q e c

theorem XW.seq {x y : Code} (h : XW P n x (Then (XW P n y Q) Q) c) : XW P n (.seq x y) Q c := ⟨fun W0 G0 a w g hi => by
  refine wp_seq (wp_mono (h.run W0 G0 a w g hi) ?_)
  rintro e a' w' ⟨c', g', q, i⟩
  cases e with
  | normal => exact q.run W0 G0 a' w' g' i
  | _ => exact ⟨c', g', q, i⟩⟩

def InBlock (id : Nat) (Q : Exit → Cfg → Prop) : Exit → Cfg → Prop
  | .exit id', c => bif Nat.beq id' id then Q .normal c else Q (.exit id') c
  | e, c => Q e c

theorem XW.block {id : Nat} {x : Code} (h : XW P n x (InBlock id Q) c) : XW P n (.block id x) Q c := ⟨fun W0 G0 a w g hi => by
  refine wp_block (wp_mono (h.run W0 G0 a w g hi) ?_)
  rintro e a' w' ⟨c', g', q, i⟩
  cases e with
  | exit id' =>
    simp only [Exit.inBlock]
    simp only [InBlock] at q
    split
    · rename_i h; subst h; simp at q; exact ⟨c', g', q, i⟩
    · rename_i h
      have : Nat.beq id' id = false := Bool.eq_false_iff.2 fun e => h (Nat.eq_of_beq_eq_true e)
      rw [this] at q
      exact ⟨c', g', q, i⟩
  | _ => exact ⟨c', g', q, i⟩⟩

/-- A loop: a relation that bears a number, which every round lowers; what the relation does not speak of may be forgotten. -/
theorem XW.loop {x : Code} (J : Nat → Cfg → Prop) {m : Nat} {c0 : Cfg} (hw : Weak n c c0) (h0 : J m c0)
    (round : ∀ m c, J m c → XW P n x (Then (fun c' => ∃ m' c'', m' < m ∧ Weak n c' c'' ∧ J m' c'') Q) c) : XW P n (.loop x) Q c := ⟨fun W0 G0 a w g hi => by
  obtain ⟨g0, hi0⟩ := hw W0 G0 a w g hi
  refine wp_loop_ghost (fun m a w => ∃ c g, J m c ∧ Inv n W0 G0 c a w g) m ⟨c0, g0, h0, hi0⟩ ?_
  rintro m a w ⟨c, g, hj, hi⟩
  refine wp_mono ((round m c hj).run W0 G0 a w g hi) ?_
  rintro e a' w' ⟨c', g', q, i⟩
  cases e with
  | normal =>
    obtain ⟨m', c'', hlt, hwk, hj'⟩ := q
    obtain ⟨g'', i''⟩ := hwk W0 G0 a' w' g' i
    exact ⟨m', hlt, c'', g'', hj', i''⟩
  | _ => exact ⟨c', g', q, i⟩⟩

end

end Go.Ev
end
