/- Written by programs of this session: laws and contracts that the law's proof stands on, merged into one text. Conditions: none beyond those in each statement. -/
import Derived.Lib.LaidTab
import Derived.Lib.ItoaMem
import Derived.Orders
import Derived.Below
import Derived.Tactics
import Derived.KernelRfl
import Derived.Laws.Sem
import Derived.Deep.LoopGhost
section
/- The package variables that calls of Go's library read, and what lies in them. Conditions: none. -/
namespace Go.Ev
open Go
def IsErr (vs : List Value) : Prop := ∃ t p, vs = [.iface t p]
def globP : List (Nat × (List Value → Prop)) := [(3, fun vs => vs = Lib.pow10Tab.map fun z => Value.int .u64 z), (1, IsErr), (2, IsErr)]
end Go.Ev
end
section
/- Written by this session: what values of Go are as trees, and how memory bears them. Conditions: none beyond those in each statement. -/
namespace Go.Ev
open Go

inductive AV where
  | top
  | v (x : Value)
  | sl (k : Nat) (l : List AV)
  | agg (l : List AV)
  | tup (l : List AV)
  | bp (i off : Nat)
  | xp (i off : Nat)
  | mo (i : Nat)
  | mx (i : Nat)
  | bs (i off k n c : Nat)
  | xs (i off k n c : Nat)
  | gv (b : Bool) (x : AV)
  | ep (l : List AV)
  | fn (f : Fn) (first cap : List AV)
  | ifc (t : TypeId) (x : AV)
  deriving Inhabited

def AV.isAgg : AV → Bool | .agg _ => true | _ => false
def VisAgg : Value → Bool | .agg _ => true | _ => false
theorem visAgg_of {v : Value} (h : v.oneCell' = true) : VisAgg v = false := by cases v <;> simp_all [VisAgg, Value.oneCell']
abbrev Hw := Nat → Option Nat

def Cells (w : World) (hw : Hw) (b o : Nat) (vs : List Value) : Prop :=
  ∃ h, hw b = some h ∧ o + vs.length ≤ h ∧ ∀ j v, vs[j]? = some v → w.cell? ⟨b, o + j, none⟩ = some v

/-- A slice's elements have cells, and are no more than memory bears. -/
def SlAt (vs : List Value) (b off k n c : Nat) : Prop := 0 < k ∧ n ≤ c ∧ c ≤ 9223372036854775807 ∧ vs = [.slice (some ⟨b, off, none⟩) n c]
def Fits (k : Nat) (l : List AV) : Prop := 0 < k ∧ l.length ≤ 140737488355328

mutual
def RepV (w : World) (hw : Hw) (bs : List Nat) (base : Nat) : AV → List Value → Prop
  | .top, vs => ∃ v, vs = [v]
  | .v x, vs => vs = [x]
  | .sl k l, vs => ∃ a c, vs = [.slice a l.length c] ∧ l.length ≤ c ∧ Fits k l ∧ (l = [] ∨ ∃ b o cs, a = some ⟨b, o, none⟩ ∧ Cells w hw b o cs ∧ RepE w hw k l cs)
  | .agg l, vs => RepL w hw bs base l vs
  | .tup _, _ => False
  | .bp i off, vs => ∃ b, bs[base + i]? = some b ∧ vs = [.pointer (some ⟨b, off, none⟩)]
  | .xp i off, vs => i < base ∧ ∃ b, bs[i]? = some b ∧ vs = [.pointer (some ⟨b, off, none⟩)]
  | .mo i, vs => ∃ b, bs[base + i]? = some b ∧ vs = [.map (some b)]
  | .mx i, vs => i < base ∧ ∃ b, bs[i]? = some b ∧ vs = [.map (some b)]
  | .bs i off k n c, vs => ∃ b, bs[base + i]? = some b ∧ SlAt vs b off k n c
  | .xs i off k n c, vs => i < base ∧ ∃ b, bs[i]? = some b ∧ SlAt vs b off k n c
  | .gv b x, vs => ∃ v, vs = [v] ∧ (b = false → v = undef) ∧ (b = true → (x.isAgg = false ∧ v.oneCell' = true) ∧ RepV w hw [] 0 x [v])
  | .ep l, vs => ∃ b o cs, vs = [.pointer (some ⟨b, o, none⟩)] ∧ Cells w hw b o cs ∧ RepL w hw [] 0 l cs
  | .fn f first cap, vs => ∃ fs cs, vs = [.func f fs cs] ∧ RepL w hw bs base first fs.toList ∧ RepL w hw bs base cap cs.toList
  | .ifc t x, vs => ∃ u, vs = [.iface t u] ∧ RepV w hw [] 0 x u.cells.toList ∧ VisAgg u = x.isAgg
def RepL (w : World) (hw : Hw) (bs : List Nat) (base : Nat) : List AV → List Value → Prop
  | [], vs => vs = []
  | x :: xs, vs => ∃ v vs', vs = v :: vs' ∧ (RepV w hw bs base x [v] ∧ x.isAgg = false ∧ v.oneCell' = true) ∧ RepL w hw bs base xs vs'
def RepE (w : World) (hw : Hw) (k : Nat) : List AV → List Value → Prop
  | [], vs => vs = []
  | x :: xs, vs => k ≤ vs.length ∧ (RepV w hw [] 0 x (vs.take k) ∧ (x.isAgg = false → ∀ v ∈ vs.take k, v.oneCell' = true)) ∧ RepE w hw k xs (vs.drop k)
end

/-- What was known of array cells is known still. -/
def HwLe (w : World) (hw : Hw) (w' : World) (hw' : Hw) : Prop :=
  ∀ b h, hw b = some h → ∃ h', hw' b = some h' ∧ h ≤ h' ∧ ∀ o, o < h ∨ w.cell? ⟨b, o, none⟩ = none → w'.cell? ⟨b, o, none⟩ = w.cell? ⟨b, o, none⟩

theorem HwLe.refl (w : World) (hw : Hw) : HwLe w hw w hw := fun _ h e => ⟨h, e, Nat.le_refl _, fun _ _ => rfl⟩
theorem HwLe.trans {w1 w2 w3 : World} {h1 h2 h3 : Hw} (a : HwLe w1 h1 w2 h2) (b : HwLe w2 h2 w3 h3) : HwLe w1 h1 w3 h3 := fun n h e => by
  obtain ⟨h', e', le, c⟩ := a n h e
  obtain ⟨h'', e'', le', c'⟩ := b n h' e'
  exact ⟨h'', e'', Nat.le_trans le le', fun o ho => (c' o (ho.imp (fun ho => Nat.lt_of_lt_of_le ho le) fun hn => (c o (.inr hn)).trans hn)).trans (c o ho)⟩

theorem Cells.mono {w w' : World} {hw hw' : Hw} {b o : Nat} {vs : List Value} (H : HwLe w hw w' hw') (h : Cells w hw b o vs) : Cells w' hw' b o vs := by
  obtain ⟨n, e, le, c⟩ := h
  obtain ⟨n', e', le', c'⟩ := H b n e
  refine ⟨n', e', Nat.le_trans le le', fun j v hj => ?_⟩
  have hl : j < vs.length := by
    rcases Nat.lt_or_ge j vs.length with h | h
    · exact h
    · rw [List.getElem?_eq_none h] at hj; cases hj
  rw [c' _ (.inl (by omega))]
  exact c j v hj

mutual
theorem RepV.mono {w w' : World} {hw hw' : Hw} (H : HwLe w hw w' hw') {bs bs' : List Nat} {base : Nat} (B : ∀ (i b : Nat), bs[i]? = some b → bs'[i]? = some b) :
    ∀ (a : AV) (vs : List Value), RepV w hw bs base a vs → RepV w' hw' bs' base a vs
  | .top, _, h => by simpa only [RepV] using h
  | .v x, _, h => by simpa only [RepV] using h
  | .sl k l, _, h => by
    simp only [RepV] at h ⊢
    obtain ⟨a, c, e, hc, hk, h⟩ := h
    refine ⟨a, c, e, hc, hk, h.imp id ?_⟩
    rintro ⟨b, o, cs, ea, hcs, hr⟩
    exact ⟨b, o, cs, ea, hcs.mono H, RepE.mono H l cs hr⟩
  | .agg l, vs, h => by simp only [RepV] at h ⊢; exact RepL.mono H B l vs h
  | .tup _, _, h => by simp only [RepV] at h
  | .bp i off, _, h => by simp only [RepV] at h ⊢; obtain ⟨b, e, r⟩ := h; exact ⟨b, B _ _ e, r⟩
  | .xp i off, _, h => by simp only [RepV] at h ⊢; obtain ⟨hi, b, e, r⟩ := h; exact ⟨hi, b, B _ _ e, r⟩
  | .mo i, _, h => by simp only [RepV] at h ⊢; obtain ⟨b, e, r⟩ := h; exact ⟨b, B _ _ e, r⟩
  | .mx i, _, h => by simp only [RepV] at h ⊢; obtain ⟨hi, b, e, r⟩ := h; exact ⟨hi, b, B _ _ e, r⟩
  | .bs .., _, h => by simp only [RepV] at h ⊢; obtain ⟨b, e, r⟩ := h; exact ⟨b, B _ _ e, r⟩
  | .xs .., _, h => by simp only [RepV] at h ⊢; obtain ⟨hi, b, e, r⟩ := h; exact ⟨hi, b, B _ _ e, r⟩
  | .gv b x, _, h => by simp only [RepV] at h ⊢; obtain ⟨v, e, q, r⟩ := h; exact ⟨v, e, q, fun hb => ⟨(r hb).1, RepV.mono H (fun _ _ h => h) x _ (r hb).2⟩⟩
  | .ep l, _, h => by
    simp only [RepV] at h ⊢
    obtain ⟨b, o, cs, e, hcs, hr⟩ := h
    exact ⟨b, o, cs, e, hcs.mono H, RepL.mono H (fun _ _ h => h) l cs hr⟩
  | .fn f first cap, _, h => by
    simp only [RepV] at h ⊢
    obtain ⟨fs, cs, e, h1, h2⟩ := h
    exact ⟨fs, cs, e, RepL.mono H B first _ h1, RepL.mono H B cap _ h2⟩
  | .ifc t x, _, h => by
    simp only [RepV] at h ⊢
    obtain ⟨u, e, h1, h2⟩ := h
    exact ⟨u, e, RepV.mono H (fun _ _ h => h) x _ h1, h2⟩
theorem RepL.mono {w w' : World} {hw hw' : Hw} (H : HwLe w hw w' hw') {bs bs' : List Nat} {base : Nat} (B : ∀ (i b : Nat), bs[i]? = some b → bs'[i]? = some b) :
    ∀ (l : List AV) (vs : List Value), RepL w hw bs base l vs → RepL w' hw' bs' base l vs
  | [], _, h => by simpa only [RepL] using h
  | x :: xs, _, h => by
    simp only [RepL] at h ⊢
    obtain ⟨v, vs', e, h1, h2⟩ := h
    exact ⟨v, vs', e, ⟨RepV.mono H B x _ h1.1, h1.2⟩, RepL.mono H B xs _ h2⟩
theorem RepE.mono {w w' : World} {hw hw' : Hw} (H : HwLe w hw w' hw') {k : Nat} :
    ∀ (l : List AV) (vs : List Value), RepE w hw k l vs → RepE w' hw' k l vs
  | [], _, h => by simpa only [RepE] using h
  | x :: xs, _, h => by
    simp only [RepE] at h ⊢
    obtain ⟨h0, h1, h2⟩ := h
    exact ⟨h0, ⟨RepV.mono H (fun _ _ h => h) x _ h1.1, h1.2⟩, RepE.mono H xs _ h2⟩
end

mutual
theorem RepV.lift {w : World} {hw : Hw} {bs : List Nat} {base : Nat} : ∀ (a : AV) (vs : List Value), RepV w hw [] 0 a vs → RepV w hw bs base a vs
  | .top, _, h => by simpa only [RepV] using h
  | .v x, _, h => by simpa only [RepV] using h
  | .sl k l, _, h => by simpa only [RepV] using h
  | .agg l, vs, h => by simp only [RepV] at h ⊢; exact RepL.lift l vs h
  | .tup _, _, h => by simp only [RepV] at h
  | .bp i off, _, h => by simp only [RepV] at h; obtain ⟨b, e, _⟩ := h; simp at e
  | .xp i off, _, h => by simp only [RepV] at h; exact absurd h.1 (by omega)
  | .mo i, _, h => by simp only [RepV] at h; obtain ⟨b, e, _⟩ := h; simp at e
  | .mx i, _, h => by simp only [RepV] at h; exact absurd h.1 (by omega)
  | .bs .., _, h => by simp only [RepV] at h; obtain ⟨b, e, _⟩ := h; simp at e
  | .xs .., _, h => by simp only [RepV] at h; exact absurd h.1 (by omega)
  | .ep l, _, h => by simpa only [RepV] using h
  | .fn f first cap, _, h => by
    simp only [RepV] at h ⊢
    obtain ⟨fs, cs, e, h1, h2⟩ := h
    exact ⟨fs, cs, e, RepL.lift first _ h1, RepL.lift cap _ h2⟩
  | .ifc t x, _, h => by simpa only [RepV] using h
  | .gv .., _, h => by simpa only [RepV] using h
theorem RepL.lift {w : World} {hw : Hw} {bs : List Nat} {base : Nat} : ∀ (l : List AV) (vs : List Value), RepL w hw [] 0 l vs → RepL w hw bs base l vs
  | [], _, h => by simpa only [RepL] using h
  | x :: xs, _, h => by
    simp only [RepL] at h ⊢
    obtain ⟨v, vs', e, h1, h2⟩ := h
    exact ⟨v, vs', e, ⟨RepV.lift x _ h1.1, h1.2⟩, RepL.lift xs _ h2⟩
end

/-- A value as a tree (no tuple). -/
def Rep1 (w : World) (hw : Hw) (bs : List Nat) (base : Nat) (a : AV) (y : Value) : Prop := a = .top ∨ (RepV w hw bs base a y.cells.toList ∧ VisAgg y = a.isAgg)
def RepT (w : World) (hw : Hw) (bs : List Nat) (base : Nat) : List AV → List Value → Prop
  | [], vs => vs = []
  | x :: xs, vs => ∃ v vs', vs = v :: vs' ∧ Rep1 w hw bs base x v ∧ RepT w hw bs base xs vs'
def Rep (w : World) (hw : Hw) (bs : List Nat) (base : Nat) (a : AV) (y : Value) : Prop :=
  match a with
  | .tup l => ∃ vs, y = .tuple vs ∧ RepT w hw bs base l vs.toList
  | a => Rep1 w hw bs base a y

section
variable {w w' : World} {hw hw' : Hw} (H : HwLe w hw w' hw') {bs bs' : List Nat} {base : Nat} (B : ∀ (i b : Nat), bs[i]? = some b → bs'[i]? = some b)
include H B
theorem Rep1.mono {a : AV} {y : Value} (h : Rep1 w hw bs base a y) : Rep1 w' hw' bs' base a y := h.imp id fun ⟨h1, h2⟩ => ⟨RepV.mono H B _ _ h1, h2⟩
theorem RepT.mono : ∀ (l : List AV) (vs : List Value), RepT w hw bs base l vs → RepT w' hw' bs' base l vs
  | [], _, h => h
  | x :: xs, _, h => by
    simp only [RepT] at h ⊢
    obtain ⟨v, vs', e, h1, h2⟩ := h
    exact ⟨v, vs', e, h1.mono H B, RepT.mono xs _ h2⟩
theorem Rep.mono {a : AV} {y : Value} (h : Rep w hw bs base a y) : Rep w' hw' bs' base a y := by
  cases a with
  | tup l => obtain ⟨vs, e, h⟩ := h; exact ⟨vs, e, RepT.mono H B l _ h⟩
  | _ => exact Rep1.mono H B h
end

theorem Rep1.lift {w : World} {hw : Hw} {bs : List Nat} {base : Nat} {a : AV} {y : Value} (h : Rep1 w hw [] 0 a y) : Rep1 w hw bs base a y := h.imp id fun ⟨h1, h2⟩ => ⟨RepV.lift _ _ h1, h2⟩
theorem RepT.lift {w : World} {hw : Hw} {bs : List Nat} {base : Nat} : ∀ (l : List AV) (vs : List Value), RepT w hw [] 0 l vs → RepT w hw bs base l vs
  | [], _, h => h
  | x :: xs, _, h => by
    simp only [RepT] at h ⊢
    obtain ⟨v, vs', e, h1, h2⟩ := h
    exact ⟨v, vs', e, h1.lift, RepT.lift xs _ h2⟩
theorem Rep.lift {w : World} {hw : Hw} {bs : List Nat} {base : Nat} {a : AV} {y : Value} (h : Rep w hw [] 0 a y) : Rep w hw bs base a y := by
  cases a with
  | tup l => obtain ⟨vs, e, h⟩ := h; exact ⟨vs, e, RepT.lift l _ h⟩
  | _ => exact Rep1.lift h

inductive Loc where
  | slot (i : Nat)
  | cell (i j : Nat)
  | ext
  deriving DecidableEq

structure Gh where
  bs : List Nat
  hw : Hw
  own : Nat → Option Loc

/-- The slice in this place is at the end of what is known of its block, and no other place may write behind it. -/
def OwnAt (w : World) (g : Gh) (L : Loc) (k : Nat) (y : Value) : Prop :=
  ∃ a n c, y = .slice a n c ∧ n ≤ c ∧ (c = 0 ∨ ∃ b o h cs e, a = some ⟨b, o, none⟩ ∧ g.own b = some L ∧ g.hw b = some h ∧ o + n * k = h ∧ w.heap[b]? = some (.cells cs e (0, 0)) ∧ o + c * k ≤ cs.size)

inductive Bx where
  | cells (l : List AV) (os : List Nat)
  | map (l : List (ByteArray × AV))
  deriving Inhabited

def RepM (w : World) (hw : Hw) : List (ByteArray × AV) → List MapEntry → Prop
  | [], es => es = []
  | (k, x) :: l, es => ∃ e es', es = e :: es' ∧ e.key = .string k ∧ Rep1 w hw [] 0 x e.val ∧ RepM w hw l es'

theorem RepM.mono {w w' : World} {hw hw' : Hw} (H : HwLe w hw w' hw') : ∀ (l : List (ByteArray × AV)) (es : List MapEntry), RepM w hw l es → RepM w' hw' l es
  | [], _, h => h
  | (k, x) :: l, _, h => by
    simp only [RepM] at h ⊢
    obtain ⟨e, es', r, h1, h2, h3⟩ := h
    exact ⟨e, es', r, h1, h2.mono H (fun _ _ h => h), RepM.mono H l _ h3⟩

def RepB (w : World) (g : Gh) (base i : Nat) (x : Bx) (b : Nat) : Prop :=
  match x with
  | .cells l os => ∃ cs e, w.heap[b]? = some (.cells cs e (0, 0)) ∧ RepL w g.hw g.bs base l cs.toList ∧
      ∀ j ∈ os, ∃ k l' y, l[j]? = some (.sl k l') ∧ cs[j]? = some y ∧ OwnAt w g (.cell i j) k y
  | .map l => ∃ es n, w.heap[b]? = some (.map es n) ∧ RepM w g.hw l es.toList

/-- The package variables that are read, and what lies in them (of the seat: written by its program). -/
def globs : List (Nat × List AV) := []
def globA (g : Nat) : AV :=
  match globs.find? fun p => Nat.beq p.1 g with
  | some p => .ep p.2
  | none => .top
/-- A block whose cells are all known. -/
def Whole (w : World) (hw : Hw) (b : Nat) (vs : List Value) : Prop := ∃ h, hw b = some h ∧ vs.length ≤ h ∧ ∀ j, w.cell? ⟨b, j, none⟩ = vs[j]?
theorem Whole.mono {w w' : World} {hw hw' : Hw} (H : HwLe w hw w' hw') {b : Nat} {vs : List Value} (h : Whole w hw b vs) : Whole w' hw' b vs := by
  obtain ⟨n, e, le, c⟩ := h
  obtain ⟨n', e', le', c'⟩ := H b n e
  refine ⟨n', e', Nat.le_trans le le', fun j => ?_⟩
  rw [c' j ?_]
  · exact c j
  · rcases Nat.lt_or_ge j vs.length with h | h
    · exact .inl (by omega)
    · exact .inr ((c j).trans (List.getElem?_eq_none h))
def GlobOk (w : World) (hw : Hw) : Prop := (∀ p ∈ globs, ∃ cs, Cells w hw p.1 0 cs ∧ RepL w hw [] 0 p.2 cs) ∧ ∀ p ∈ globP, ∃ vs, p.2 vs ∧ Whole w hw p.1 vs
theorem GlobOk.mono {w w' : World} {hw hw' : Hw} (H : HwLe w hw w' hw') (h : GlobOk w hw) : GlobOk w' hw' := ⟨fun p hp => by
  obtain ⟨cs, h1, h2⟩ := h.1 p hp
  exact ⟨cs, h1.mono H, RepL.mono H (fun _ _ h => h) _ _ h2⟩, fun p hp => by
  obtain ⟨vs, h1, h2⟩ := h.2 p hp
  exact ⟨vs, h1, h2.mono H⟩⟩

structure Good (w : World) (g : Gh) (mem : List Bx) (base : Nat) : Prop where
  len : g.bs.length = mem.length
  nd : g.bs.Nodup
  nohw : ∀ b ∈ g.bs, g.hw b = none
  box : ∀ i x b, mem[i]? = some x → g.bs[i]? = some b → RepB w g base i x b
  hw : ∀ b h, g.hw b = some h → ∃ cs e f, w.heap[b]? = some (.cells cs e f) ∧ h ≤ cs.size
  own : ∀ b L, g.own b = some L → ∃ h, g.hw b = some h
  glob : GlobOk w g.hw

structure Ext (keep : Loc → Prop) (w : World) (g : Gh) (w' : World) (g' : Gh) : Prop where
  size : w.heap.size ≤ w'.heap.size
  tape : w'.tape = w.tape
  os : w'.os = w.os
  output : w'.output = w.output
  hw : HwLe w g.hw w' g'.hw
  ext : ∀ (b : Nat) (L : Loc), g.own b = some L → keep L → g'.own b = some L ∧ g'.hw b = g.hw b ∧ w'.heap[b]? = w.heap[b]?
  bs : ∀ (i b : Nat), g.bs[i]? = some b → g'.bs[i]? = some b
  bsnew : ∀ b ∈ g'.bs, b ∈ g.bs ∨ w.heap.size ≤ b
  orig : ∀ b, b < w.heap.size → ∀ L, g'.own b = some L → ∃ L', g.own b = some L' ∧ (keep L' → L = L')
  old : ∀ b, b < w.heap.size → b ∉ g.bs → (∀ L, g.own b = some L → keep L) → w'.heap[b]? = w.heap[b]?

theorem Ext.refl (keep : Loc → Prop) (w : World) (g : Gh) : Ext keep w g w g :=
  ⟨Nat.le_refl _, rfl, rfl, rfl, HwLe.refl _ _, fun _ _ h _ => ⟨h, rfl, rfl⟩, fun _ _ h => h, fun _ h => .inl h, fun _ _ L h => ⟨L, h, fun _ => rfl⟩, fun _ _ _ _ => rfl⟩

theorem Ext.trans {keep : Loc → Prop} {w1 w2 w3 : World} {g1 g2 g3 : Gh} (a : Ext keep w1 g1 w2 g2) (b : Ext keep w2 g2 w3 g3) : Ext keep w1 g1 w3 g3 where
  size := Nat.le_trans a.size b.size
  tape := b.tape.trans a.tape
  os := b.os.trans a.os
  output := b.output.trans a.output
  hw := a.hw.trans b.hw
  ext n L h k := by
    obtain ⟨h1, h2, h3⟩ := a.ext n L h k
    obtain ⟨k1, k2, k3⟩ := b.ext n L h1 k
    exact ⟨k1, k2.trans h2, k3.trans h3⟩
  bs i n h := b.bs i n (a.bs i n h)
  bsnew n h := by
    rcases b.bsnew n h with h | h
    · exact a.bsnew n h
    · exact .inr (Nat.le_trans a.size h)
  orig n hn L h := by
    obtain ⟨L', h', e'⟩ := b.orig n (Nat.lt_of_lt_of_le hn a.size) L h
    obtain ⟨L'', h'', e''⟩ := a.orig n hn L' h'
    exact ⟨L'', h'', fun k => by have := e'' k; subst this; exact e' k⟩
  old n hn hb ho := by
    rw [b.old n (Nat.lt_of_lt_of_le hn a.size) ?_ ?_, a.old n hn hb ho]
    · intro h
      rcases a.bsnew n h with h | h
      · exact hb h
      · omega
    · intro L h
      obtain ⟨L', h', e'⟩ := a.orig n hn L h
      have hk := ho L' h'
      rw [e' hk]; exact hk

theorem Ext.weaken {keep keep' : Loc → Prop} (hk : ∀ L, keep' L → keep L) {w w' : World} {g g' : Gh} (a : Ext keep w g w' g') : Ext keep' w g w' g' where
  size := a.size
  tape := a.tape
  os := a.os
  output := a.output
  hw := a.hw
  ext n L h k := a.ext n L h (hk L k)
  bs := a.bs
  bsnew := a.bsnew
  orig n hn L h := by
    obtain ⟨L', h', e'⟩ := a.orig n hn L h
    exact ⟨L', h', fun k => e' (hk _ k)⟩
  old n hn hb ho := a.old n hn hb fun L h => hk L (ho L h)

theorem OwnAt.mono {w w' : World} {g g' : Gh} {L : Loc} {k : Nat} {y : Value} (h : OwnAt w g L k y)
    (H : ∀ b, g.own b = some L → g'.own b = some L ∧ g'.hw b = g.hw b ∧ w'.heap[b]? = w.heap[b]?) : OwnAt w' g' L k y := by
  obtain ⟨a, n, c, e, hn, h⟩ := h
  refine ⟨a, n, c, e, hn, h.imp id ?_⟩
  rintro ⟨b, o, h, cs, e, ea, h1, h2, h3, h4, h5⟩
  obtain ⟨k1, k2, k3⟩ := H b h1
  exact ⟨b, o, h, cs, e, ea, k1, k2.trans h2, h3, k3.trans h4, h5⟩

end Go.Ev
end
section
/- Written by this session: proofs of Go code over trees: a frame of trees, the rules of control. Conditions: none beyond those in each statement. -/
namespace Go.Ev
open Go

abbrev Fr := List (Nat × AV)
def Fr.get : Fr → Nat → AV
  | [], _ => .top
  | (j, x) :: r, i => bif Nat.beq j i then x else Fr.get r i

theorem Fr.get_cons (j : Nat) (x : AV) (r : Fr) (i : Nat) : Fr.get ((j, x) :: r) i = if j = i then x else Fr.get r i := by
  by_cases h : j = i
  · subst h; simp [Fr.get]
  · have : Nat.beq j i = false := Bool.eq_false_iff.2 fun e => h (Nat.eq_of_beq_eq_true e)
    simp [Fr.get, this, h]

structure Cfg where
  fr : Fr
  os : List Nat
  own : List Bx
  env : List Bx

def Cfg.put (c : Cfg) (d : Option Nat) (x : AV) : Cfg :=
  match d with
  | some d => match c with
    | ⟨fr, os, own, env⟩ => ⟨(d, x) :: fr, os.filter fun i => !Nat.beq i d, own, env⟩
  | none => c

/-- The tree is seen before it is used. -/
def forceV0 (x : AV) (K : AV → Prop) : Prop :=
  match x with
  | .top => K .top
  | .v y => K (.v y)
  | .sl k l => K (.sl k l)
  | .agg l => K (.agg l)
  | .tup l => K (.tup l)
  | .bp i o => K (.bp i o)
  | .xp i o => K (.xp i o)
  | .mo i => K (.mo i)
  | .mx i => K (.mx i)
  | .bs i o k n c => K (.bs i o k n c)
  | .xs i o k n c => K (.xs i o k n c)
  | .ep l => K (.ep l)
  | .fn f a b => K (.fn f a b)
  | .ifc t x => K (.ifc t x)
  | .gv b x => K (.gv b x)
def forceV (x : AV) (K : AV → Prop) : Prop :=
  match x with
  | .top => K .top
  | .v y => K (.v y)
  | .sl k l => K (.sl k l)
  | .agg l => K (.agg l)
  | .tup l => K (.tup l)
  | .bp i o => K (.bp i o)
  | .xp i o => K (.xp i o)
  | .mo i => K (.mo i)
  | .mx i => K (.mx i)
  | .bs i o k n c => K (.bs i o k n c)
  | .xs i o k n c => K (.xs i o k n c)
  | .ep l => K (.ep l)
  | .fn f a b => K (.fn f a b)
  | .ifc t x => K (.ifc t x)
  | .gv b x => forceV0 x fun x' => K (.gv b x')
theorem forceV0_iff (x : AV) (K : AV → Prop) : forceV0 x K ↔ K x := by cases x <;> exact Iff.rfl
theorem forceV_iff (x : AV) (K : AV → Prop) : forceV x K ↔ K x := by
  cases x
  case gv b x => exact forceV0_iff x fun x' => K (.gv b x')
  all_goals exact Iff.rfl
def forceN (l : List Nat) (K : List Nat → Prop) : Prop :=
  match l with
  | [] => K []
  | a :: r => forceN r fun r' => K (a :: r')
theorem forceN_iff : ∀ (l : List Nat) (K : List Nat → Prop), forceN l K ↔ K l
  | [], _ => Iff.rfl
  | a :: r, K => forceN_iff r fun r' => K (a :: r')
def forceO (l : List Bx) (K : List Bx → Prop) : Prop :=
  match l with
  | [] => K []
  | .cells a b :: r => forceO r fun r' => K (.cells a b :: r')
  | .map a :: r => forceO r fun r' => K (.map a :: r')
theorem forceO_iff : ∀ (l : List Bx) (K : List Bx → Prop), forceO l K ↔ K l
  | [], _ => Iff.rfl
  | .cells a b :: r, K => forceO_iff r fun r' => K (.cells a b :: r')
  | .map a :: r, K => forceO_iff r fun r' => K (.map a :: r')

/-- The configuration is seen before it is used. -/
def normA (c : Cfg) (K : Cfg → Prop) : Prop :=
  match c with
  | ⟨fr, os, own, env⟩ => forceN os fun os => forceO own fun own => match fr with
    | [] => K ⟨[], os, own, env⟩
    | (i, x) :: r => forceV x fun x' => K ⟨(i, x') :: r, os, own, env⟩
theorem normA_iff (c : Cfg) (K : Cfg → Prop) : normA c K ↔ K c := by
  obtain ⟨fr, os, own, env⟩ := c
  unfold normA
  simp only [forceN_iff, forceO_iff]
  cases fr with
  | nil => exact Iff.rfl
  | cons p r => obtain ⟨i, x⟩ := p; exact forceV_iff x _

def Cfg.base (c : Cfg) : Nat := c.env.length
def Cfg.mem (c : Cfg) : List Bx := c.env ++ c.own

mutual
/-- Own boxes below m alone, boxes of the surroundings below base alone. -/
def AV.cl (base m : Nat) : AV → Prop
  | .bp i _ | .mo i | .bs i _ _ _ _ => i < m
  | .xp i _ | .mx i | .xs i _ _ _ _ => i < base
  | .agg l => clL base m l
  | .fn _ a b => clL base m a ∧ clL base m b
  | .tup l => clL base m l
  | _ => True
def clL (base m : Nat) : List AV → Prop
  | [] => True
  | x :: xs => AV.cl base m x ∧ clL base m xs
end

def Bx.cl (base m : Nat) : Bx → Prop
  | .cells l _ => clL base m l
  | .map _ => True

structure Inv (n : Nat) (W0 : World) (G0 : Gh) (c : Cfg) (a : Act) (w : World) (g : Gh) : Prop where
  size : a.tmps.size = n
  defers : a.defers = []
  fr : ∀ i, i < n → Rep w g.hw g.bs c.base (Fr.get c.fr i) (a.tmps.getD i undef)
  os : ∀ i ∈ c.os, ∃ k l, Fr.get c.fr i = .sl k l ∧ OwnAt w g (.slot i) k (a.tmps.getD i undef)
  good : Good w g c.mem c.base
  ext : Ext (· = .ext) W0 G0 w g
  ecl : ∀ x ∈ c.env, Bx.cl c.base 0 x
  b0 : G0.bs.length = c.base

structure XW (P : Program) (n : Nat) (cd : Code) (Q : Exit → Cfg → Prop) (c : Cfg) : Prop where
  run : ∀ W0 G0 a w g, Inv n W0 G0 c a w g → cd.wp P (fun e a' w' => ∃ c' g', Q e c' ∧ Inv n W0 G0 c' a' w' g') a w

/-- c' says no more than c. -/
def Weak (n : Nat) (c c' : Cfg) : Prop := ∀ W0 G0 a w g, Inv n W0 G0 c a w g → ∃ g', Inv n W0 G0 c' a w g'

section
variable {P : Program} {n : Nat} {Q : Exit → Cfg → Prop} {c : Cfg}

theorem Weak.refl : Weak n c c := fun _ _ _ _ g h => ⟨g, h⟩
theorem Weak.trans {c1 c2 c3 : Cfg} (a : Weak n c1 c2) (b : Weak n c2 c3) : Weak n c1 c3 := fun W0 G0 x w g h => by
  obtain ⟨g', h'⟩ := a W0 G0 x w g h
  exact b W0 G0 x w g' h'

theorem XW.mono {cd : Code} {Q' : Exit → Cfg → Prop} (h : XW P n cd Q c) (hq : ∀ e c, Q e c → Q' e c) : XW P n cd Q' c := ⟨fun W0 G0 a w g hi =>
  wp_mono (h.run W0 G0 a w g hi) fun e _ _ ⟨c', g', q, i⟩ => ⟨c', g', hq e c' q, i⟩⟩

theorem XW.skip (h : Q .normal c) : XW P n .skip Q c := ⟨fun _ _ _ _ g hi => wp_skip ⟨c, g, h, hi⟩⟩
theorem XW.label {l : Nat} (h : Q .normal c) : XW P n (.label l) Q c := ⟨fun _ _ _ _ g hi => wp_label ⟨c, g, h, hi⟩⟩
theorem XW.exit {id : Nat} (h : Q (.exit id) c) : XW P n (.exit id) Q c := ⟨fun _ _ _ _ g hi => wp_exit ⟨c, g, h, hi⟩⟩
theorem XW.ret (h : Q .ret c) : XW P n .ret Q c := ⟨fun _ _ _ _ g hi => wp_ret ⟨c, g, h, hi⟩⟩

def Then (K : Cfg → Prop) (Q : Exit → Cfg → Prop) : Exit → Cfg → Prop
  | .normal, c => K c
  | e, c => Q e c

theorem XW.seq {x y : Code} (h : XW P n x (Then (XW P n y Q) Q) c) : XW P n (.seq x y) Q c := ⟨fun W0 G0 a w g hi => by
  refine wp_seq (wp_mono (h.run W0 G0 a w g hi) ?_)
  rintro e a' w' ⟨c', g', q, i⟩
  cases e with
  | normal => exact q.run W0 G0 a' w' g' i
  | _ => exact ⟨c', g', q, i⟩⟩

def InBlock (id : Nat) (Q : Exit → Cfg → Prop) : Exit → Cfg → Prop
  | .exit id', c => bif Nat.beq id' id then Q .normal c else Q (.exit id') c
  | e, c => Q e c

theorem XW.block {id : Nat} {x : Code} (h : XW P n x (InBlock id Q) c) : XW P n (.block id x) Q c := ⟨fun W0 G0 a w g hi => by
  refine wp_block (wp_mono (h.run W0 G0 a w g hi) ?_)
  rintro e a' w' ⟨c', g', q, i⟩
  cases e with
  | exit id' =>
    simp only [Exit.inBlock]
    simp only [InBlock] at q
    split
    · rename_i h; subst h; simp at q; exact ⟨c', g', q, i⟩
    · rename_i h
      have : Nat.beq id' id = false := Bool.eq_false_iff.2 fun e => h (Nat.eq_of_beq_eq_true e)
      rw [this] at q
      exact ⟨c', g', q, i⟩
  | _ => exact ⟨c', g', q, i⟩⟩

/-- A loop: a relation that bears a number, which every round lowers; what the relation does not speak of may be forgotten. -/
theorem XW.loop {x : Code} (J : Nat → Cfg → Prop) {m : Nat} {c0 : Cfg} (hw : Weak n c c0) (h0 : J m c0)
    (round : ∀ m c, J m c → XW P n x (Then (fun c' => ∃ m' c'', m' < m ∧ Weak n c' c'' ∧ J m' c'') Q) c) : XW P n (.loop x) Q c := ⟨fun W0 G0 a w g hi => by
  obtain ⟨g0, hi0⟩ := hw W0 G0 a w g hi
  refine wp_loop_ghost (fun m a w => ∃ c g, J m c ∧ Inv n W0 G0 c a w g) m ⟨c0, g0, h0, hi0⟩ ?_
  rintro m a w ⟨c, g, hj, hi⟩
  refine wp_mono ((round m c hj).run W0 G0 a w g hi) ?_
  rintro e a' w' ⟨c', g', q, i⟩
  cases e with
  | normal =>
    obtain ⟨m', c'', hlt, hwk, hj'⟩ := q
    obtain ⟨g'', i''⟩ := hwk W0 G0 a' w' g' i
    exact ⟨m', hlt, c'', g'', hj', i''⟩
  | _ => exact ⟨c', g', q, i⟩⟩

end

end Go.Ev
end
section
/- Written by this session: operations that leave memory as it is, over trees. Conditions: none beyond those in each statement. -/
namespace Go.Ev
open Go

def cst : Value → AV
  | .agg cs => .agg (cs.toList.map .v)
  | x => .v x

def evA (c : Cfg) : Operand → AV
  | .tmp t => Fr.get c.fr t
  | .const v => cst v
  | .func f => .fn (.func f) [] []
  | .global g => globA g

def okTmp (n : Nat) : Operand → Bool
  | .tmp t => Nat.blt t n
  | .const (.agg cs) => cs.toList.all fun x => x.oneCell'
  | _ => true

def VisTup : Value → Bool | .tuple _ => true | _ => false

def AV.leaves : AV → List AV
  | .agg l => l
  | x => [x]

def AV.isLeaf : AV → Bool
  | .agg _ | .tup _ | .top | .gv _ _ => false
  | .v x => x.oneCell'
  | _ => true

def AV.plainLeaf : AV → Bool
  | .v _ | .sl _ _ => true
  | _ => false
def pfLeaves (l : List AV) : Bool := l.all AV.plainLeaf

@[irreducible] def byteAt (s : ByteArray) (i : Nat) : UInt8 := s.data.toList.getD i 0

def isAggT (P : Program) (t : TypeId) : Bool :=
  match P.underlying t with
  | some (.struct _) | some (.array _ _) => true
  | _ => false

def intOp (op : BinOp) (k : IntKind) (a b : Int) (K : AV → Prop) : Prop :=
  match op with
  | .add => K (.v (.int k (k.wrap (a + b))))
  | .sub => K (.v (.int k (k.wrap (a - b))))
  | .mul => K (.v (.int k (k.wrap (a * b))))
  | .quo => b ≠ 0 ∧ K (.v (.int k (k.wrap (a.tdiv b))))
  | .rem => b ≠ 0 ∧ K (.v (.int k (a.tmod b)))
  | .shr => 0 ≤ b ∧ b.toNat ≤ k.bits ∧ K (.v (.int k (a.fdiv (2 ^ b.toNat))))
  | .eql => K (.v (.bool (a == b)))
  | .neq => K (.v (.bool (a != b)))
  | .lss => K (.v (.bool (decide (a < b))))
  | .leq => K (.v (.bool (decide (a ≤ b))))
  | .gtr => K (.v (.bool (decide (a > b))))
  | .geq => K (.v (.bool (decide (a ≥ b))))
  | _ => False

def beqS (a b : ByteArray) : Bool := a.toList == b.toList
def ltS (a b : ByteArray) : Bool := Op.bytesLess a.toList b.toList

def strOp (op : BinOp) (a b : ByteArray) (K : AV → Prop) : Prop :=
  match op with
  | .add => a.size + b.size ≤ 140737488355328 ∧ K (.v (.string (a ++ b)))
  | .eql => K (.v (.bool (beqS a b)))
  | .neq => K (.v (.bool !beqS a b))
  | .lss => K (.v (.bool (ltS a b)))
  | .leq => K (.v (.bool (ltS a b || beqS a b)))
  | .gtr => K (.v (.bool !(ltS a b || beqS a b)))
  | .geq => K (.v (.bool !(ltS a b)))
  | _ => False

def boolOp (P : Program) (op : BinOp) (t : TypeId) (a b : Bool) (K : AV → Prop) : Prop :=
  match P.underlying t, op with
  | some .bool, .eql => K (.v (.bool (a == b)))
  | some .bool, .neq => K (.v (.bool !(a == b)))
  | _, _ => False

def eqLeaf (P : Program) (t : TypeId) (x y : AV) : Option Bool :=
  match P.underlying t, x, y with
  | some (.int _), .v (.int k a), .v (.int k' b) => bif decide (k = k') then some (a == b) else none
  | some .bool, .v (.bool a), .v (.bool b) => some (a == b)
  | some .string, .v (.string a), .v (.string b) => some (beqS a b)
  | _, _, _ => none

def eqFieldsA (P : Program) (l m : List AV) : List Field → Option Bool
  | [] => some true
  | f :: fs => match l[f.offset]?, m[f.offset]? with
    | some x, some y => match eqLeaf P f.type x y, eqFieldsA P l m fs with
      | some a, some b => some (a && b)
      | _, _ => none
    | _, _ => none

def isConstO : Operand → Bool
  | .const _ => true
  | _ => false

/-- Are two values equal, of a type whose values are compared part by part? -/
def eqA (P : Program) (t : TypeId) (ox oy : Operand) (x y : AV) (K : Bool → Prop) : Prop :=
  match x, y with
  | .agg l, .agg m => match P.underlying t with
    | some (.struct fs) => match eqFieldsA P l m fs.toList with
      | some b => (P.stoodInHeld t = false ∧ P.eqGuardType P.depth t = false ∧ (fs.toList.all fun f => f.name != "_") = true) ∧ K b
      | none => False
    | _ => False
  | .ifc _ _, .v .nilIface => match P.underlying t with
    | some (.interface _) => K false
    | _ => False
  | .v .nilIface, .v .nilIface => match P.underlying t with
    | some (.interface _) => bif isConstO ox || isConstO oy then K true else False
    | _ => False
  | _, _ => False

def binA (P : Program) (op : BinOp) (t : TypeId) (ox oy : Operand) (x y : AV) (K : AV → Prop) : Prop :=
  match x, y with
  | .v (.int k a), .v (.int k' b) => bif decide (k = k') then intOp op k a b K else False
  | .v (.string a), .v (.string b) => strOp op a b K
  | .v (.bool a), .v (.bool b) => boolOp P op t a b K
  | x, y => match op with
    | .eql => eqA P t ox oy x y fun b => K (.v (.bool b))
    | .neq => eqA P t ox oy x y fun b => K (.v (.bool !b))
    | _ => False

def unA (op : UnOp) (x : AV) (K : AV → Prop) : Prop :=
  match op, x with
  | .not, .v (.bool b) => K (.v (.bool !b))
  | .neg, .v (.int k n) => K (.v (.int k (k.wrap (0 - n))))
  | _, _ => False

def convA (P : Program) (src dst : TypeId) (x : AV) (K : AV → Prop) : Prop :=
  match P.underlying src, P.underlying dst, x with
  | some _, some (.int k), .v (.int _ n) => K (.v (.int k (k.wrap n)))
  | some _, some .string, .v (.string s) => K (.v (.string s))
  | _, _, _ => False

def fieldAddrA (P : Program) (t : TypeId) (x : AV) (i : Nat) (K : AV → Prop) : Prop :=
  match P.underlying t with
  | some (.struct fs) =>
    match fs[i]? with
    | some f =>
      bif (P.underlying f.type).isSome && !Nat.beq (P.cellsOf f.type) 0 then
        match x with
        | .bp b off => K (.bp b (off + f.offset))
        | .xp b off => K (.xp b (off + f.offset))
        | .ep l => f.offset ≤ l.length ∧ K (.ep (l.drop f.offset))
        | _ => False
      else False
    | none => False
  | _ => False

/-- A part of leaves, as a value of a type. -/
def partA (P : Program) (t : TypeId) (l : List AV) (off : Nat) (K : AV → Prop) : Prop :=
  bif (P.underlying t).isSome then
    bif isAggT P t then off + P.cellsOf t ≤ l.length ∧ K (.agg ((l.drop off).take (P.cellsOf t)))
    else match l[off]? with
      | some x => K x
      | none => False
  else False

def fieldA (P : Program) (t : TypeId) (x : AV) (i : Nat) (K : AV → Prop) : Prop :=
  match P.underlying t, x with
  | some (.struct fs), .agg l =>
    match fs[i]? with
    | some f => partA P f.type l f.offset K
    | none => False
  | _, _ => False

def indexA (P : Program) (t : TypeId) (x i : AV) (K : AV → Prop) : Prop :=
  match P.underlying t, x, i with
  | some .string, .v (.string s), .v (.int _ n) => 0 ≤ n ∧ n < s.size ∧ K (.v (.int .u8 (byteAt s n.toNat).toNat))
  | _, _, _ => False

def indexAddrA (P : Program) (t : TypeId) (x i : AV) (K : AV → Prop) : Prop :=
  match P.underlying t, x, i with
  | some (.slice e), .sl k l, .v (.int _ n) =>
    bif (P.underlying e).isSome && Nat.beq (P.cellsOf e) k then 0 ≤ n ∧ n < l.length ∧ K (.ep (l.getD n.toNat .top).leaves) else False
  | some (.slice e), .bs b off k m _, .v (.int _ n) =>
    bif (P.underlying e).isSome && Nat.beq (P.cellsOf e) k then 0 ≤ n ∧ n < m ∧ K (.bp b (off + n.toNat * k)) else False
  | some (.slice e), .xs b off k m _, .v (.int _ n) =>
    bif (P.underlying e).isSome && Nat.beq (P.cellsOf e) k then 0 ≤ n ∧ n < m ∧ K (.xp b (off + n.toNat * k)) else False
  | _, _, _ => False

def boundA (x : Option AV) (d : Nat) (K : Nat → Prop) (most : Nat) : Prop :=
  match x with
  | none => K d
  | some (.v (.int _ n)) => 0 ≤ n ∧ n ≤ most ∧ K n.toNat
  | _ => False

def sliceA (P : Program) (t : TypeId) (x : AV) (lo hi mx : Option AV) (K : AV → Prop) : Prop :=
  match mx, P.underlying t, x with
  | none, some .string, .v (.string s) => boundA hi s.size (fun h => boundA lo 0 (fun l => K (.v (.string (s.extract l h)))) h) s.size
  | none, some (.slice e), .sl k l =>
    bif (P.underlying e).isSome && Nat.beq (P.cellsOf e) k then boundA hi l.length (fun h => boundA lo 0 (fun a => K (.sl k ((l.take h).drop a))) h) l.length else False
  | none, some (.slice e), .bs i off k n c =>
    bif (P.underlying e).isSome && Nat.beq (P.cellsOf e) k then boundA hi n (fun h => boundA lo 0 (fun a => K (.bs i (bif Nat.beq c a then off else off + a * k) k (h - a) (c - a))) h) c else False
  | none, some (.slice e), .xs i off k n c =>
    bif (P.underlying e).isSome && Nat.beq (P.cellsOf e) k then boundA hi n (fun h => boundA lo 0 (fun a => K (.xs i (bif Nat.beq c a then off else off + a * k) k (h - a) (c - a))) h) c else False
  | some m, some (.slice e), .sl k l =>
    bif (P.underlying e).isSome && Nat.beq (P.cellsOf e) k && hi.isSome then boundA (some m) 0 (fun q => boundA hi 0 (fun h => boundA lo 0 (fun a => K (.sl k ((l.take h).drop a))) h) q) l.length else False
  | some m, some (.slice e), .bs i off k _ c =>
    bif (P.underlying e).isSome && Nat.beq (P.cellsOf e) k && hi.isSome then boundA (some m) 0 (fun q => boundA hi 0 (fun h => boundA lo 0 (fun a => K (.bs i (bif Nat.beq q a then off else off + a * k) k (h - a) (q - a))) h) q) c else False
  | some m, some (.slice e), .xs i off k _ c =>
    bif (P.underlying e).isSome && Nat.beq (P.cellsOf e) k && hi.isSome then boundA (some m) 0 (fun q => boundA hi 0 (fun h => boundA lo 0 (fun a => K (.xs i (bif Nat.beq q a then off else off + a * k) k (h - a) (q - a))) h) q) c else False
  | none, some (.slice e), .v (.slice none 0 0) =>
    bif (P.underlying e).isSome then boundA hi 0 (fun h => boundA lo 0 (fun _ => K (.v (.slice none 0 0))) h) 0 else False
  | _, _, _ => False

def loadA (P : Program) (env own : List Bx) (t : TypeId) (x : AV) (K : AV → Prop) : Prop :=
  match x with
  | .bp i off => match own[i]? with
    | some (.cells l _) => partA P t l off K
    | _ => False
  | .xp i off => ∃ l os, env[i]? = some (.cells l os) ∧ partA P t l off K
  | .ep l => partA P t l 0 K
  | _ => False

def lenA (P : Program) (own env : List Bx) (t : TypeId) (x : AV) (K : AV → Prop) : Prop :=
  match P.underlying t, x with
  | some .string, .v (.string s) => K (.v (.int .i64 s.size))
  | some (.slice _), .sl _ l => K (.v (.int .i64 l.length))
  | some (.slice _), .v (.slice none n _) => K (.v (.int .i64 n))
  | some (.slice _), .bs _ _ _ n _ => K (.v (.int .i64 n))
  | some (.slice _), .xs _ _ _ n _ => K (.v (.int .i64 n))
  | some (.map _ _), .mo i => match own[i]? with
    | some (.map l) => K (.v (.int .i64 l.length))
    | _ => False
  | some (.map _ _), .mx i => match env[i]? with
    | some (.map l) => K (.v (.int .i64 l.length))
    | _ => False
  | _, _ => False

def capA (P : Program) (t : TypeId) (x : AV) (K : AV → Prop) : Prop :=
  match P.underlying t, x with
  | some (.slice _), .bs _ _ _ _ c => K (.v (.int .i64 c))
  | some (.slice _), .xs _ _ _ _ c => K (.v (.int .i64 c))
  | some (.slice _), .v (.slice none _ c) => K (.v (.int .i64 c))
  | _, _ => False

def getM (l : List (ByteArray × AV)) (s : ByteArray) : Option AV :=
  match l with
  | [] => none
  | (k, x) :: r => if s = k then some x else getM r s

def setM (l : List (ByteArray × AV)) (s : ByteArray) (v : AV) : List (ByteArray × AV) :=
  match l with
  | [] => [(s, v)]
  | (k, x) :: r => if s = k then (s, v) :: r else (k, x) :: setM r s v

/-- A map's entries. -/
def mapOf (env own : List Bx) : AV → Option (List (ByteArray × AV))
  | .mo i => match own[i]? with
    | some (.map l) => some l
    | _ => none
  | .mx i => match env[i]? with
    | some (.map l) => some l
    | _ => none
  | .v (.map none) => some []
  | _ => none

theorem mapOf_mx {env own : List Bx} {k : Nat} {l : List (ByteArray × AV)} (h : env[k]? = some (.map l)) : mapOf env own (.mx k) = some l := by
  simp only [mapOf, h]

def lookupA (P : Program) (env own : List Bx) (t : TypeId) (m k : AV) (ok : Bool) (K : AV → Prop) : Prop :=
  match P.underlying t, k with
  | some (.map kt et), .v (.string s) => match P.underlying kt, P.info? et with
    | some .string, some i => match i.zero with
      | some z => bif okTmp 0 (.const z) && !VisTup z then
          ∃ l, mapOf env own m = some l ∧ (∀ x, getM l s = some x → K (bif ok then .tup [x, .v (.bool true)] else x)) ∧ (getM l s = none → K (bif ok then .tup [cst z, .v (.bool false)] else cst z))
        else False
      | none => False
    | _, _ => False
  | _, _ => False

def min2A (x y : AV) (K : AV → Prop) : Prop :=
  match x, y with
  | .v (.int k a), .v (.int _ b) => K (.v (.int k (if b < a then b else a)))
  | _, _ => False
def max2A (x y : AV) (K : AV → Prop) : Prop :=
  match x, y with
  | .v (.int k a), .v (.int _ b) => K (.v (.int k (if b > a then b else a)))
  | _, _ => False

/-- A truth value, and when it is known. -/
def bv : AV → Option (Bool × Bool)
  | .v (.bool x) => some (true, x)
  | .gv b (.v (.bool x)) => some (b, x)
  | _ => none

def pureA (P : Program) (env own : List Bx) (ρ : Operand → AV) (o : Oper) (K : AV → Prop) : Prop :=
  match o.op with
  | .move x => K (ρ x)
  | .assign x => K (ρ x)
  | .pick c a b => (match bv (ρ c), bv (ρ a), bv (ρ b) with
    | some (bc, t), some (b1, x), some (b2, y) => bc = true ∧ (t = true → b1 = true) ∧ (t = false → b2 = true) ∧ K (.v (.bool (bif t then x else y)))
    | _, _, _ => (match ρ c with
      | .v (.bool t) => (t = true → K (ρ a)) ∧ (t = false → K (ρ b))
      | _ => False))
  | .binOp op t x y _ => binA P op t x y (ρ x) (ρ y) K
  | .unOp op _ x => unA op (ρ x) K
  | .convert s d x => convA P s d (ρ x) K
  | .fieldAddr t x i => fieldAddrA P t (ρ x) i K
  | .field t x i => fieldA P t (ρ x) i K
  | .index t x i => indexA P t (ρ x) (ρ i) K
  | .indexAddr t x i => indexAddrA P t (ρ x) (ρ i) K
  | .slice t x lo hi mx => sliceA P t (ρ x) (lo.map ρ) (hi.map ρ) (mx.map ρ) K
  | .load t a => loadA P env own t (ρ a) K
  | .lookup t x i ok => lookupA P env own t (ρ x) (ρ i) ok K
  | .nilCheck x => match ρ x with
    | .bp i off => K (.bp i off)
    | .xp i off => K (.xp i off)
    | .ep l => K (.ep l)
    | _ => False
  | .makeInterface t x => (match P.underlying t, ρ x with
    | some (.interface _), _ => False
    | some _, .v y => bif y.oneCell' then K (.ifc t (.v y)) else False
    | some _, .sl k l => K (.ifc t (.sl k l))
    | some _, .agg l => bif pfLeaves l then K (.ifc t (.agg l)) else False
    | _, _ => False)
  | .makeFunc fn first cap => bif (first.toList.map ρ).all AV.isLeaf && (cap.toList.map ρ).all AV.isLeaf then K (.fn fn (first.toList.map ρ) (cap.toList.map ρ)) else False
  | .extract x i => match ρ x with
    | .tup l => match l[i]? with
      | some y => K y
      | none => False
    | _ => False
  | .call c => match c.callee, c.args.toList, c.argTypes.toList with
    | .builtin .len, [x], [t] => lenA P own env t (ρ x) K
    | .builtin .cap, [x], [t] => capA P t (ρ x) K
    | .builtin .min, [x, y], _ => min2A (ρ x) (ρ y) K
    | .builtin .max, [x, y], _ => max2A (ρ x) (ρ y) K
    | _, _, _ => False
  | _ => False

/-- The operation gives this tree, and leaves the world as it is. -/
def PureAt (P : Program) (env own : List Bx) (ρA : Operand → AV) (o : Oper) (v : AV) : Prop :=
  ∀ (ρ : Operand → Value) (w : World) (g : Gh), Good w g (env ++ own) env.length → (∀ x, x ∈ o.op.operands → Rep w g.hw g.bs env.length (ρA x) (ρ x)) →
    ∃ u, (execOp ρ o).run P w = .ok (.value u) w ∧ Rep w g.hw g.bs env.length v u

end Go.Ev
end
section
/- Written by this session: the operations that leave memory as it is give what the trees say. Conditions: none beyond those in each statement. -/
namespace Go.Ev
open Go

theorem cells_toList_of {y : Value} (h : VisAgg y = false) : y.cells.toList = [y] := by cases y <;> simp_all [Value.cells, VisAgg]
theorem agg_of {y : Value} (h : VisAgg y = true) : ∃ cs, y = .agg cs ∧ y.cells = cs := by cases y <;> simp_all [Value.cells, VisAgg]

section
variable {w : World} {hw : Hw} {bs : List Nat} {base : Nat} {y : Value}

theorem rep_v {x : Value} (h : Rep w hw bs base (.v x) y) : y = x ∧ VisAgg x = false := by
  rcases h with h | ⟨h1, h2⟩
  · cases h
  · simp only [AV.isAgg] at h2
    rw [cells_toList_of h2] at h1
    simp only [RepV] at h1
    simp at h1; subst h1; exact ⟨rfl, h2⟩
theorem rep_v_mk {x : Value} (h : VisAgg x = false) : Rep w hw bs base (.v x) x := .inr ⟨by simp [RepV, cells_toList_of h], by simp [AV.isAgg, h]⟩
theorem rep_int {k : IntKind} {n : Int} : Rep w hw bs base (.v (.int k n)) (.int k n) := rep_v_mk rfl
theorem rep_bool {b : Bool} : Rep w hw bs base (.v (.bool b)) (.bool b) := rep_v_mk rfl
theorem rep_string {s : ByteArray} : Rep w hw bs base (.v (.string s)) (.string s) := rep_v_mk rfl

theorem rep_agg {l : List AV} (h : Rep w hw bs base (.agg l) y) : ∃ cs, y = .agg cs ∧ RepL w hw bs base l cs.toList := by
  rcases h with h | ⟨h1, h2⟩
  · cases h
  · obtain ⟨cs, rfl, e⟩ := agg_of (by simpa [AV.isAgg] using h2)
    exact ⟨cs, rfl, by simpa [RepV, Value.cells] using h1⟩
theorem rep_agg_mk {l : List AV} {cs : Array Value} (h : RepL w hw bs base l cs.toList) : Rep w hw bs base (.agg l) (.agg cs) :=
  .inr ⟨by simpa [RepV, Value.cells] using h, rfl⟩

/-- A leaf is one cell. -/
theorem rep_leaf {a : AV} (hl : a.isAgg = false) (ht : a ≠ .top) (hu : ∀ l, a ≠ .tup l) (h : Rep w hw bs base a y) : RepV w hw bs base a [y] ∧ VisAgg y = false := by
  have h' : Rep1 w hw bs base a y := by cases a <;> first | exact h | exact absurd rfl (hu _)
  rcases h' with h | ⟨h1, h2⟩
  · exact absurd h ht
  · rw [hl] at h2
    rw [cells_toList_of h2] at h1
    exact ⟨h1, h2⟩

theorem rep_sl {k : Nat} {l : List AV} (h : Rep w hw bs base (.sl k l) y) : ∃ a c, y = .slice a l.length c ∧ l.length ≤ c ∧ 0 < k ∧ (l = [] ∨ ∃ b o cs, a = some ⟨b, o, none⟩ ∧ Cells w hw b o cs ∧ RepE w hw k l cs) := by
  have := (rep_leaf rfl (by simp) (by simp) h).1
  simp only [RepV] at this
  obtain ⟨a, c, e, r1, r2, r3⟩ := this
  simp at e
  exact ⟨a, c, e, r1, r2.1, r3⟩
theorem rep_fits {k : Nat} {l : List AV} (h : Rep w hw bs base (.sl k l) y) : Fits k l := by
  have := (rep_leaf rfl (by simp) (by simp) h).1
  simp only [RepV] at this
  obtain ⟨a, c, e, r1, r2, r3⟩ := this
  exact r2
theorem rep_bp {i off : Nat} (h : Rep w hw bs base (.bp i off) y) : ∃ b, bs[base + i]? = some b ∧ y = .pointer (some ⟨b, off, none⟩) := by
  have := (rep_leaf rfl (by simp) (by simp) h).1
  simp only [RepV] at this
  obtain ⟨b, e, r⟩ := this
  simp at r
  exact ⟨b, e, r⟩
theorem rep_xp {i off : Nat} (h : Rep w hw bs base (.xp i off) y) : i < base ∧ ∃ b, bs[i]? = some b ∧ y = .pointer (some ⟨b, off, none⟩) := by
  have := (rep_leaf rfl (by simp) (by simp) h).1
  simp only [RepV] at this
  obtain ⟨h0, b, e, r⟩ := this
  simp at r
  exact ⟨h0, b, e, r⟩
theorem rep_mo {i : Nat} (h : Rep w hw bs base (.mo i) y) : ∃ b, bs[base + i]? = some b ∧ y = .map (some b) := by
  have := (rep_leaf rfl (by simp) (by simp) h).1
  simp only [RepV] at this
  obtain ⟨b, e, r⟩ := this
  simp at r
  exact ⟨b, e, r⟩
theorem rep_mx {i : Nat} (h : Rep w hw bs base (.mx i) y) : i < base ∧ ∃ b, bs[i]? = some b ∧ y = .map (some b) := by
  have := (rep_leaf rfl (by simp) (by simp) h).1
  simp only [RepV] at this
  obtain ⟨h0, b, e, r⟩ := this
  simp at r
  exact ⟨h0, b, e, r⟩
theorem rep_bs {i off k n c : Nat} (h : Rep w hw bs base (.bs i off k n c) y) : ∃ b, bs[base + i]? = some b ∧ 0 < k ∧ n ≤ c ∧ c ≤ 9223372036854775807 ∧ y = .slice (some ⟨b, off, none⟩) n c := by
  have := (rep_leaf rfl (by simp) (by simp) h).1
  simp only [RepV] at this
  obtain ⟨b, e, h1, h2, h3, r⟩ := this
  simp at r
  exact ⟨b, e, h1, h2, h3, r⟩
theorem rep_xs {i off k n c : Nat} (h : Rep w hw bs base (.xs i off k n c) y) : i < base ∧ ∃ b, bs[i]? = some b ∧ 0 < k ∧ n ≤ c ∧ c ≤ 9223372036854775807 ∧ y = .slice (some ⟨b, off, none⟩) n c := by
  have := (rep_leaf rfl (by simp) (by simp) h).1
  simp only [RepV] at this
  obtain ⟨h0, b, e, h1, h2, h3, r⟩ := this
  simp at r
  exact ⟨h0, b, e, h1, h2, h3, r⟩
theorem rep_ep {l : List AV} (h : Rep w hw bs base (.ep l) y) : ∃ b o cs, y = .pointer (some ⟨b, o, none⟩) ∧ Cells w hw b o cs ∧ RepL w hw [] 0 l cs := by
  have := (rep_leaf rfl (by simp) (by simp) h).1
  simp only [RepV] at this
  obtain ⟨b, o, cs, e, r⟩ := this
  simp at e
  exact ⟨b, o, cs, e, r⟩
theorem rep_mk_leaf {a : AV} (ha : a.isAgg = false) (hy : VisAgg y = false) (h : RepV w hw bs base a [y]) : Rep w hw bs base a y := by
  have h1 : Rep1 w hw bs base a y := .inr ⟨by rw [cells_toList_of hy]; exact h, by rw [hy, ha]⟩
  cases a <;> first | exact h1 | (simp only [RepV] at h)
theorem rep_bp_mk {i off b : Nat} (h : bs[base + i]? = some b) : Rep w hw bs base (.bp i off) (.pointer (some ⟨b, off, none⟩)) := rep_mk_leaf rfl rfl (by simp only [RepV]; exact ⟨b, h, rfl⟩)
theorem rep_xp_mk {i off b : Nat} (h0 : i < base) (h : bs[i]? = some b) : Rep w hw bs base (.xp i off) (.pointer (some ⟨b, off, none⟩)) := rep_mk_leaf rfl rfl (by simp only [RepV]; exact ⟨h0, b, h, rfl⟩)
theorem rep_ep_mk {l : List AV} {b o : Nat} {cs : List Value} (h1 : Cells w hw b o cs) (h2 : RepL w hw [] 0 l cs) : Rep w hw bs base (.ep l) (.pointer (some ⟨b, o, none⟩)) := rep_mk_leaf rfl rfl (by simp only [RepV]; exact ⟨b, o, cs, rfl, h1, h2⟩)
theorem rep_sl_mk {k n : Nat} {l : List AV} {a : Option Addr} {c : Nat} (hn : n = l.length) (hc : l.length ≤ c) (hk : Fits k l) (h : l = [] ∨ ∃ b o cs, a = some ⟨b, o, none⟩ ∧ Cells w hw b o cs ∧ RepE w hw k l cs) : Rep w hw bs base (.sl k l) (.slice a n c) :=
  rep_mk_leaf rfl rfl (by simp only [RepV]; exact ⟨a, c, by rw [hn], hc, hk, h⟩)

theorem RepL.length : ∀ {l : List AV} {vs : List Value}, RepL w hw bs base l vs → vs.length = l.length
  | [], _, h => by simp only [RepL] at h; subst h; rfl
  | x :: xs, _, h => by simp only [RepL] at h; obtain ⟨v, vs', rfl, _, h⟩ := h; simp [RepL.length h]
theorem RepL.drop : ∀ {l : List AV} {vs : List Value} (n : Nat), RepL w hw bs base l vs → RepL w hw bs base (l.drop n) (vs.drop n)
  | l, vs, 0, h => by simpa using h
  | [], _, n + 1, h => by simp only [RepL] at h; subst h; simp [RepL]
  | x :: xs, _, n + 1, h => by simp only [RepL] at h; obtain ⟨v, vs', rfl, _, h⟩ := h; simpa using RepL.drop n h
theorem RepL.take : ∀ {l : List AV} {vs : List Value} (n : Nat), RepL w hw bs base l vs → RepL w hw bs base (l.take n) (vs.take n)
  | l, vs, 0, h => by simp [RepL]
  | [], _, n + 1, h => by simp only [RepL] at h; subst h; simp [RepL]
  | x :: xs, _, n + 1, h => by
    simp only [RepL] at h; obtain ⟨v, vs', rfl, h1, h⟩ := h
    simp only [List.take_succ_cons, RepL]
    exact ⟨v, _, rfl, h1, RepL.take n h⟩
theorem RepL.get : ∀ {l : List AV} {vs : List Value} {n : Nat} {x : AV}, RepL w hw bs base l vs → l[n]? = some x → ∃ v, vs[n]? = some v ∧ RepV w hw bs base x [v] ∧ x.isAgg = false ∧ v.oneCell' = true
  | [], _, _, _, _, h => by simp at h
  | a :: l, _, 0, x, h, e => by simp only [RepL] at h; obtain ⟨v, vs', rfl, h1, h⟩ := h; simp at e; subst e; exact ⟨v, rfl, h1⟩
  | a :: l, _, n + 1, x, h, e => by simp only [RepL] at h; obtain ⟨v, vs', rfl, h1, h⟩ := h; simp at e; simpa using RepL.get h e
/-- One cell alone: no struct. -/
theorem repV_one {x : AV} {v : Value} (hv : v.oneCell' = true) (hx : x.isAgg = false) (h : RepV w hw bs base x [v]) : Rep w hw bs base x v := rep_mk_leaf hx (visAgg_of hv) h

theorem RepE.len : ∀ {k : Nat} {l : List AV} {vs : List Value}, RepE w hw k l vs → vs.length = l.length * k
  | _, [], _, h => by simp only [RepE] at h; subst h; simp
  | k, x :: xs, vs, h => by
    simp only [RepE] at h
    obtain ⟨h0, _, h⟩ := h
    have := RepE.len h
    simp only [List.length_drop] at this
    simp only [List.length_cons, Nat.succ_mul]
    omega
theorem RepE.drop : ∀ {k : Nat} {l : List AV} {vs : List Value} (n : Nat), RepE w hw k l vs → RepE w hw k (l.drop n) (vs.drop (n * k))
  | _, _, _, 0, h => by simpa using h
  | _, [], _, n + 1, h => by simp only [RepE] at h; subst h; simp [RepE]
  | k, x :: xs, vs, n + 1, h => by
    simp only [RepE] at h
    obtain ⟨h0, _, h⟩ := h
    have := RepE.drop n h
    rw [List.drop_drop] at this
    simp only [List.drop_succ_cons]
    rwa [show (n + 1) * k = k + n * k from by rw [Nat.succ_mul]; omega]
theorem RepE.take : ∀ {k : Nat} {l : List AV} {vs : List Value} (n : Nat), RepE w hw k l vs → RepE w hw k (l.take n) (vs.take (n * k))
  | _, _, _, 0, h => by simp [RepE]
  | _, [], _, n + 1, h => by simp only [RepE] at h; subst h; simp [RepE]
  | k, x :: xs, vs, n + 1, h => by
    simp only [RepE] at h
    obtain ⟨h0, h1, h⟩ := h
    have := RepE.take n h
    simp only [List.take_succ_cons, RepE]
    have e : (n + 1) * k = k + n * k := by rw [Nat.succ_mul]; omega
    refine ⟨by simp only [List.length_take]; rw [e]; omega, ?_, ?_⟩
    · rw [List.take_take, Nat.min_eq_left (by rw [e]; omega)]; exact h1
    · rw [e, List.drop_take]; simpa using this
theorem RepE.get {k : Nat} {l : List AV} {vs : List Value} {n : Nat} {x : AV} (h : RepE w hw k l vs) (e : l[n]? = some x) : (n + 1) * k ≤ vs.length ∧ RepV w hw [] 0 x ((vs.drop (n * k)).take k) ∧ (x.isAgg = false → ∀ v ∈ (vs.drop (n * k)).take k, v.oneCell' = true) := by
  have h' := RepE.drop n h
  have hn : n < l.length := by
    rcases Nat.lt_or_ge n l.length with h | h
    · exact h
    · rw [List.getElem?_eq_none h] at e; cases e
  have : l.drop n = x :: l.drop (n + 1) := by
    rw [List.drop_eq_getElem_cons hn]
    simp [List.getElem?_eq_getElem hn] at e
    rw [e]
  rw [this] at h'
  simp only [RepE] at h'
  have hl := RepE.len h
  refine ⟨?_, h'.2.1⟩
  rw [hl]
  exact Nat.mul_le_mul_right _ hn
theorem repV_leaves {x : AV} {vs : List Value} (h : RepV w hw bs base x vs) (hv : x.isAgg = false → ∀ v ∈ vs, v.oneCell' = true) : RepL w hw bs base x.leaves vs := by
  have one : ∀ v, vs = [v] → x.isAgg = false → RepL w hw bs base [x] vs := fun v e hx => by
    subst e
    simp only [RepL]
    exact ⟨v, [], rfl, ⟨h, hx, hv hx v (by simp)⟩, rfl⟩
  cases x
  case agg l => simpa only [AV.leaves, RepV] using h
  case tup => simp only [RepV] at h
  all_goals
    simp only [AV.leaves]
    have h0 := h
    simp only [RepV] at h0
  case top => obtain ⟨v, e⟩ := h0; exact one _ e rfl
  case v => exact one _ h0 rfl
  case sl k l => obtain ⟨a, c, e, r⟩ := h0; exact one _ e rfl
  case bp => obtain ⟨b, _, e⟩ := h0; exact one _ e rfl
  case xp => obtain ⟨_, b, _, e⟩ := h0; exact one _ e rfl
  case mo => obtain ⟨b, _, e⟩ := h0; exact one _ e rfl
  case mx => obtain ⟨_, b, _, e⟩ := h0; exact one _ e rfl
  case bs => obtain ⟨b, _, _, _, _, e⟩ := h0; exact one _ e rfl
  case xs => obtain ⟨_, b, _, _, _, _, e⟩ := h0; exact one _ e rfl
  case gv => obtain ⟨v, e, _⟩ := h0; exact one _ e rfl
  case ep => obtain ⟨b, o, cs, e, r⟩ := h0; exact one _ e rfl
  case fn => obtain ⟨b, o, e, r⟩ := h0; exact one _ e rfl
  case ifc => obtain ⟨b, e, r⟩ := h0; exact one _ e rfl
theorem Cells.take {b o : Nat} {vs : List Value} (n : Nat) (h : Cells w hw b o vs) : Cells w hw b o (vs.take n) := by
  obtain ⟨m, e, le, c⟩ := h
  exact ⟨m, e, by simp only [List.length_take]; omega, fun j v hj => c j v (by
    rw [List.getElem?_take] at hj; split at hj <;> simp_all)⟩
theorem Cells.drop {b o : Nat} {vs : List Value} (n : Nat) (hn : n ≤ vs.length) (h : Cells w hw b o vs) : Cells w hw b (o + n) (vs.drop n) := by
  obtain ⟨m, e, le, c⟩ := h
  exact ⟨m, e, by simp only [List.length_drop]; omega, fun j v hj => by
    rw [List.getElem?_drop] at hj
    have := c _ v hj
    rwa [← Nat.add_assoc] at this⟩
end
end Go.Ev
end
section
/- Written by this session: each operation that leaves memory as it is. Conditions: none beyond those in each statement. -/
namespace Go.Ev
open Go

section
variable {P : Program} {env own : List Bx} {ρA : Operand → AV} {o : Oper} {K : AV → Prop}

theorem cst_rep {n : Nat} {w : World} {hw : Hw} {bs : List Nat} {base : Nat} (v : Value) (h : okTmp n (.const v) = true) : Rep w hw bs base (cst v) v := by
  cases v with
  | agg cs =>
    refine rep_agg_mk ?_
    have all : ∀ l : List Value, (l.all fun x => x.oneCell') = true → RepL w hw bs base (l.map .v) l := by
      intro l
      induction l with
      | nil => intro _; simp [RepL]
      | cons x l ih =>
        intro hl
        simp only [List.all_cons, Bool.and_eq_true] at hl
        simp only [List.map_cons, RepL]
        exact ⟨x, l, rfl, ⟨by simp [RepV], rfl, hl.1⟩, ih hl.2⟩
    exact all cs.toList h
  | _ => exact rep_v_mk rfl

theorem run_und {t : TypeId} {d : TypeDesc} (h : P.underlying t = some d) (w : World) : (underlying t).run P w = .ok d w := by
  simp [underlying, h]
theorem run_size {t : TypeId} (h : (P.info? t).isSome = true) (w : World) : (sizeOf t).run P w = .ok (P.cellsOf t) w := by
  obtain ⟨i, hi⟩ := Option.isSome_iff_exists.1 h
  simp [sizeOf, typeInfo, hi, Program.cellsOf]
theorem info_of_und {t : TypeId} (h : (P.underlying t).isSome = true) : (P.info? t).isSome = true := by
  cases e : P.info? t with
  | some i => rfl
  | none => simp [Program.underlying, e] at h
theorem und_of_info {t : TypeId} (h : isAggT P t = true) : ∃ d, P.underlying t = some d := by
  unfold isAggT at h
  cases e : P.underlying t with
  | some d => exact ⟨d, rfl⟩
  | none => simp [e] at h
theorem run_isAgg {t : TypeId} {d : TypeDesc} (h : P.underlying t = some d) (w : World) : (isAgg t).run P w = .ok (isAggT P t) w := by
  unfold isAgg isAggT
  cases d <;> simp [underlying, h]

theorem addr_add (b o n : Nat) : (⟨b, o, none⟩ : Addr).add n = ⟨b, o + n, none⟩ := by
  unfold Addr.add; split <;> simp_all

theorem run_loadCellsFrom {w : World} {b o : Nat} : ∀ (n i : Nat) (acc : Array Value) (vs : List Value), vs.length = n → (∀ j v, vs[j]? = some v → w.cell? ⟨b, o + i + j, none⟩ = some v) →
    (loadCellsFrom ⟨b, o, none⟩ i n acc).run P w = .ok (acc ++ vs.toArray) w
  | 0, i, acc, vs, hn, h => by
    obtain rfl := List.length_eq_zero_iff.1 hn
    simp [loadCellsFrom]
  | n + 1, i, acc, v :: vs, hn, h => by
    have h0 := h 0 v rfl
    simp only [Nat.add_zero] at h0
    simp only [loadCellsFrom, Sem.run_bind, addr_add, run_load, h0, Result.andThen_ok]
    rw [run_loadCellsFrom n (i + 1) (acc.push v) vs (by simpa using hn) fun j x hj => by
      have := h (j + 1) x (by simpa using hj)
      rw [show o + (i + 1) + j = o + i + (j + 1) from by omega]; exact this]
    simp

theorem run_loadCells {w : World} {hw : Hw} {b o : Nat} {vs : List Value} (h : Cells w hw b o vs) {n : Nat} (hn : n = vs.length) : (loadCells ⟨b, o, none⟩ n).run P w = .ok vs.toArray w := by
  obtain ⟨m, e, le, c⟩ := h
  subst hn
  unfold loadCells
  rw [run_loadCellsFrom vs.length 0 #[] vs rfl (by simpa using c)]
  simp

/-- The cells of a place, whatever the place is. -/
def CellsAt (w : World) (b o : Nat) (vs : List Value) : Prop := ∀ j v, vs[j]? = some v → w.cell? ⟨b, o + j, none⟩ = some v
theorem Cells.at {w : World} {hw : Hw} {b o : Nat} {vs : List Value} (h : Cells w hw b o vs) : CellsAt w b o vs := h.choose_spec.2.2
theorem CellsAt.sub {w : World} {b o : Nat} {vs : List Value} (h : CellsAt w b o vs) (off n : Nat) : CellsAt w b (o + off) ((vs.drop off).take n) := fun j v hj => by
  rw [List.getElem?_take] at hj
  split at hj
  · rw [List.getElem?_drop] at hj
    have := h _ v hj
    rwa [← Nat.add_assoc] at this
  · cases hj

theorem part_load {t : TypeId} {l : List AV} {off : Nat} (h : partA P t l off K) : ∃ v, K v ∧ ∀ (w : World) (hw : Hw) (bs : List Nat) (base b o : Nat) (vs : List Value),
    CellsAt w b o vs → RepL w hw bs base l vs → ∃ u, (loadVar t ⟨b, o + off, none⟩).run P w = .ok u w ∧ Rep w hw bs base v u := by
  unfold partA at h
  cases hi0 : (P.underlying t).isSome with
  | false => simp [hi0] at h
  | true =>
    simp only [hi0, cond_true] at h
    have hi := info_of_und hi0
    cases ha : isAggT P t with
    | true =>
      simp only [ha, cond_true] at h
      obtain ⟨hle, hk⟩ := h
      refine ⟨_, hk, fun w hw bs base b o vs hc hr => ?_⟩
      obtain ⟨d, hd⟩ := und_of_info ha
      have hlen := RepL.length hr
      refine ⟨.agg ((vs.drop off).take (P.cellsOf t)).toArray, ?_, rep_agg_mk (by simpa using (hr.drop off).take _)⟩
      simp only [loadVar, Sem.run_bind, run_isAgg hd, Result.andThen_ok, ha, if_true, run_size hi]
      unfold loadCells
      rw [run_loadCellsFrom (P.cellsOf t) 0 #[] ((vs.drop off).take (P.cellsOf t)) (by simp; omega) (fun j v hj => by simpa using hc.sub off (P.cellsOf t) j v hj)]
      simp
    | false =>
      simp only [ha, cond_false] at h
      cases hx : l[off]? with
      | none => simp [hx] at h
      | some x =>
        simp only [hx] at h
        refine ⟨x, h, fun w hw bs base b o vs hc hr => ?_⟩
        obtain ⟨v, hv, hrv, h1, h2⟩ := hr.get hx
        refine ⟨v, ?_, repV_one h2 h1 hrv⟩
        cases hd : P.underlying t with
        | none => simp [hd] at hi0
        | some d => simp [loadVar, run_isAgg hd, ha, hc off v hv]

theorem cells_of_block {w : World} {b : Nat} {cs : Array Value} {e : TypeId} {f : Nat × Nat} (h : w.heap[b]? = some (.cells cs e f)) : CellsAt w b 0 cs.toList := fun j v hj => by
  simp only [World.cell?, h, Nat.zero_add, Option.isSome_none, Bool.false_eq_true, if_false]
  simpa using hj

theorem Good.own_box {w : World} {g : Gh} (G : Good w g (env ++ own) env.length) {i b : Nat} {x : Bx} (h : own[i]? = some x) (hb : g.bs[env.length + i]? = some b) : RepB w g env.length (env.length + i) x b :=
  G.box _ x b (by rw [List.getElem?_append_right (by omega)]; simpa using h) hb
theorem Good.env_box {w : World} {g : Gh} (G : Good w g (env ++ own) env.length) {i b : Nat} {x : Bx} (h : env[i]? = some x) (hb : g.bs[i]? = some b) : RepB w g env.length i x b := by
  have hi : i < env.length := by
    rcases Nat.lt_or_ge i env.length with h' | h'
    · exact h'
    · rw [List.getElem?_eq_none h'] at h; cases h
  exact G.box _ x b (by rw [List.getElem?_append_left hi]; exact h) hb

theorem rep_sliceAddr {w : World} {g : Gh} {k : Nat} {l : List AV} {n : Nat} {x : AV} {b o : Nat} {cs : List Value} (hk : 0 < k) (hc : Cells w g.hw b o cs) (hr : RepE w g.hw k l cs) (hx : l[n]? = some x) :
    Cells w g.hw b (o + n * k) ((cs.drop (n * k)).take k) ∧ RepL w g.hw [] 0 x.leaves ((cs.drop (n * k)).take k) := by
  obtain ⟨h1, h2, h3⟩ := hr.get hx
  have : n * k + k ≤ cs.length := by rw [Nat.succ_mul] at h1; exact h1
  exact ⟨(hc.drop (n * k) (by omega)).take k, repV_leaves h2 h3⟩

theorem sliceBound_run {k : IntKind} {n : Int} {y : Nat} (h0 : 0 ≤ n) (h1 : n ≤ y) (cd : BoundsCode) (w : World) : (Instr.sliceBound (.int k n) y cd).run P w = .ok n.toNat w := by
  simp [Instr.sliceBound, asIntOf, h0, h1]

end
end Go.Ev
end
