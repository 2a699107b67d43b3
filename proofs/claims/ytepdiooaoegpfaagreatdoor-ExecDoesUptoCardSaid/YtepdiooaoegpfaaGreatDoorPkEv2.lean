/- Written by programs of this session: laws and contracts that the law's proof stands on, merged into one text. Conditions: none beyond those in each statement. -/
import Derived.Test.YtepdiooaoegpfaaGreatDoorPkEv1
section
/- Written by this session: operations that leave memory as it is, over trees. Conditions: none beyond those in each statement. -/
namespace Go.Ev
open Go

def cst : Value → AV
  | .agg cs => .agg (cs.toList.map .v)
  | x => .v x

def evA (c : Cfg) : Operand → AV
  | .tmp t => Fr.get c.fr t
  | .const v => cst v
  | .func f => .fn (.func f) [] []
  | .global g => globA g

def okTmp (n : Nat) : Operand → Bool
  | .tmp t => Nat.blt t n
  | .const (.agg cs) => cs.toList.all fun x => x.oneCell'
  | _ => true

def VisTup : Value → Bool | .tuple _ => true | _ => false

def AV.leaves : AV → List AV
  | .agg l => l
  | x => [x]

def AV.isLeaf : AV → Bool
  | .agg _ | .tup _ | .top | .gv _ _ => false
  | .v x => x.oneCell'
  | _ => true

def AV.plainLeaf : AV → Bool
  | .v _ | .sl _ _ => true
  | _ => false
def pfLeaves (l : List AV) : Bool := l.all AV.plainLeaf

@[irreducible] def byteAt (s : ByteArray) (i : Nat) : UInt8 := s.data.toList.getD i 0

def isAggT (P : Program) (t : TypeId) : Bool :=
  match P.underlying t with
  | some (.struct _) | some (.array _ _) => true
  | _ => false

def intOp (op : BinOp) (k : IntKind) (a b : Int) (K : AV → Prop) : Prop :=
  match op with
  | .add => K (.v (.int k (k.wrap (a + b))))
  | .sub => K (.v (.int k (k.wrap (a - b))))
  | .mul => K (.v (.int k (k.wrap (a * b))))
  | .quo => b ≠ 0 ∧ K (.v (.int k (k.wrap (a.tdiv b))))
  | .rem => b ≠ 0 ∧ K (.v (.int k (a.tmod b)))
  | .shr => 0 ≤ b ∧ b.toNat ≤ k.bits ∧ K (.v (.int k (a.fdiv (2 ^ b.toNat))))
  | .eql => K (.v (.bool (a == b)))
  | .neq => K (.v (.bool (a != b)))
  | .lss => K (.v (.bool (decide (a < b))))
  | .leq => K (.v (.bool (decide (a ≤ b))))
  | .gtr => K (.v (.bool (decide (a > b))))
  | .geq => K (.v (.bool (decide (a ≥ b))))
  | _ => False

def beqS (a b : ByteArray) : Bool := a.toList == b.toList
def ltS (a b : ByteArray) : Bool := Op.bytesLess a.toList b.toList

def strOp (op : BinOp) (a b : ByteArray) (K : AV → Prop) : Prop :=
  match op with
  | .add => a.size + b.size ≤ 140737488355328 ∧ K (.v (.string (a ++ b)))
  | .eql => K (.v (.bool (beqS a b)))
  | .neq => K (.v (.bool !beqS a b))
  | .lss => K (.v (.bool (ltS a b)))
  | .leq => K (.v (.bool (ltS a b || beqS a b)))
  | .gtr => K (.v (.bool !(ltS a b || beqS a b)))
  | .geq => K (.v (.bool !(ltS a b)))
  | _ => False

def boolOp (P : Program) (op : BinOp) (t : TypeId) (a b : Bool) (K : AV → Prop) : Prop :=
  match P.underlying t, op with
  | some .bool, .eql => K (.v (.bool (a == b)))
  | some .bool, .neq => K (.v (.bool !(a == b)))
  | _, _ => False

def eqLeaf (P : Program) (t : TypeId) (x y : AV) : Option Bool :=
  match P.underlying t, x, y with
  | some (.int _), .v (.int k a), .v (.int k' b) => bif decide (k = k') then some (a == b) else none
  | some .bool, .v (.bool a), .v (.bool b) => some (a == b)
  | some .string, .v (.string a), .v (.string b) => some (beqS a b)
  | _, _, _ => none

def eqFieldsA (P : Program) (l m : List AV) : List Field → Option Bool
  | [] => some true
  | f :: fs => match l[f.offset]?, m[f.offset]? with
    | some x, some y => match eqLeaf P f.type x y, eqFieldsA P l m fs with
      | some a, some b => some (a && b)
      | _, _ => none
    | _, _ => none

def isConstO : Operand → Bool
  | .const _ => true
  | _ => false

/-- Are two values equal, of a type whose values are compared part by part? -/
def eqA (P : Program) (t : TypeId) (ox oy : Operand) (x y : AV) (K : Bool → Prop) : Prop :=
  match x, y with
  | .agg l, .agg m => match P.underlying t with
    | some (.struct fs) => match eqFieldsA P l m fs.toList with
      | some b => (P.stoodInHeld t = false ∧ P.eqGuardType P.depth t = false ∧ (fs.toList.all fun f => f.name != "_") = true) ∧ K b
      | none => False
    | _ => False
  | .ifc _ _, .v .nilIface => match P.underlying t with
    | some (.interface _) => K false
    | _ => False
  | .v .nilIface, .v .nilIface => match P.underlying t with
    | some (.interface _) => bif isConstO ox || isConstO oy then K true else False
    | _ => False
  | _, _ => False

def binA (P : Program) (op : BinOp) (t : TypeId) (ox oy : Operand) (x y : AV) (K : AV → Prop) : Prop :=
  match x, y with
  | .v (.int k a), .v (.int k' b) => bif decide (k = k') then intOp op k a b K else False
  | .v (.string a), .v (.string b) => strOp op a b K
  | .v (.bool a), .v (.bool b) => boolOp P op t a b K
  | x, y => match op with
    | .eql => eqA P t ox oy x y fun b => K (.v (.bool b))
    | .neq => eqA P t ox oy x y fun b => K (.v (.bool !b))
    | _ => False

def unA (op : UnOp) (x : AV) (K : AV → Prop) : Prop :=
  match op, x with
  | .not, .v (.bool b) => K (.v (.bool !b))
  | .neg, .v (.int k n) => K (.v (.int k (k.wrap (0 - n))))
  | _, _ => False

def convA (P : Program) (src dst : TypeId) (x : AV) (K : AV → Prop) : Prop :=
  match P.underlying src, P.underlying dst, x with
  | some _, some (.int k), .v (.int _ n) => K (.v (.int k (k.wrap n)))
  | some _, some .string, .v (.string s) => K (.v (.string s))
  | _, _, _ => False

def fieldAddrA (P : Program) (t : TypeId) (x : AV) (i : Nat) (K : AV → Prop) : Prop :=
  match P.underlying t with
  | some (.struct fs) =>
    match fs[i]? with
    | some f =>
      bif (P.underlying f.type).isSome && !Nat.beq (P.cellsOf f.type) 0 then
        match x with
        | .bp b off => K (.bp b (off + f.offset))
        | .xp b off => K (.xp b (off + f.offset))
        | .ep l => f.offset ≤ l.length ∧ K (.ep (l.drop f.offset))
        | _ => False
      else False
    | none => False
  | _ => False

/-- A part of leaves, as a value of a type. -/
def partA (P : Program) (t : TypeId) (l : List AV) (off : Nat) (K : AV → Prop) : Prop :=
  bif (P.underlying t).isSome then
    bif isAggT P t then off + P.cellsOf t ≤ l.length ∧ K (.agg ((l.drop off).take (P.cellsOf t)))
    else match l[off]? with
      | some x => K x
      | none => False
  else False

def fieldA (P : Program) (t : TypeId) (x : AV) (i : Nat) (K : AV → Prop) : Prop :=
  match P.underlying t, x with
  | some (.struct fs), .agg l =>
    match fs[i]? with
    | some f => partA P f.type l f.offset K
    | none => False
  | _, _ => False

def indexA (P : Program) (t : TypeId) (x i : AV) (K : AV → Prop) : Prop :=
  match P.underlying t, x, i with
  | some .string, .v (.string s), .v (.int _ n) => 0 ≤ n ∧ n < s.size ∧ K (.v (.int .u8 (byteAt s n.toNat).toNat))
  | _, _, _ => False

def indexAddrA (P : Program) (t : TypeId) (x i : AV) (K : AV → Prop) : Prop :=
  match P.underlying t, x, i with
  | some (.slice e), .sl k l, .v (.int _ n) =>
    bif (P.underlying e).isSome && Nat.beq (P.cellsOf e) k then 0 ≤ n ∧ n < l.length ∧ K (.ep (l.getD n.toNat .top).leaves) else False
  | some (.slice e), .bs b off k m _, .v (.int _ n) =>
    bif (P.underlying e).isSome && Nat.beq (P.cellsOf e) k then 0 ≤ n ∧ n < m ∧ K (.bp b (off + n.toNat * k)) else False
  | some (.slice e), .xs b off k m _, .v (.int _ n) =>
    bif (P.underlying e).isSome && Nat.beq (P.cellsOf e) k then 0 ≤ n ∧ n < m ∧ K (.xp b (off + n.toNat * k)) else False
  | _, _, _ => False

def boundA (x : Option AV) (d : Nat) (K : Nat → Prop) (most : Nat) : Prop :=
  match x with
  | none => K d
  | some (.v (.int _ n)) => 0 ≤ n ∧ n ≤ most ∧ K n.toNat
  | _ => False

def sliceA (P : Program) (t : TypeId) (x : AV) (lo hi mx : Option AV) (K : AV → Prop) : Prop :=
  match mx, P.underlying t, x with
  | none, some .string, .v (.string s) => boundA hi s.size (fun h => boundA lo 0 (fun l => K (.v (.string (s.extract l h)))) h) s.size
  | none, some (.slice e), .sl k l =>
    bif (P.underlying e).isSome && Nat.beq (P.cellsOf e) k then boundA hi l.length (fun h => boundA lo 0 (fun a => K (.sl k ((l.take h).drop a))) h) l.length else False
  | none, some (.slice e), .bs i off k n c =>
    bif (P.underlying e).isSome && Nat.beq (P.cellsOf e) k then boundA hi n (fun h => boundA lo 0 (fun a => K (.bs i (bif Nat.beq c a then off else off + a * k) k (h - a) (c - a))) h) c else False
  | none, some (.slice e), .xs i off k n c =>
    bif (P.underlying e).isSome && Nat.beq (P.cellsOf e) k then boundA hi n (fun h => boundA lo 0 (fun a => K (.xs i (bif Nat.beq c a then off else off + a * k) k (h - a) (c - a))) h) c else False
  | some m, some (.slice e), .sl k l =>
    bif (P.underlying e).isSome && Nat.beq (P.cellsOf e) k && hi.isSome then boundA (some m) 0 (fun q => boundA hi 0 (fun h => boundA lo 0 (fun a => K (.sl k ((l.take h).drop a))) h) q) l.length else False
  | some m, some (.slice e), .bs i off k _ c =>
    bif (P.underlying e).isSome && Nat.beq (P.cellsOf e) k && hi.isSome then boundA (some m) 0 (fun q => boundA hi 0 (fun h => boundA lo 0 (fun a => K (.bs i (bif Nat.beq q a then off else off + a * k) k (h - a) (q - a))) h) q) c else False
  | some m, some (.slice e), .xs i off k _ c =>
    bif (P.underlying e).isSome && Nat.beq (P.cellsOf e) k && hi.isSome then boundA (some m) 0 (fun q => boundA hi 0 (fun h => boundA lo 0 (fun a => K (.xs i (bif Nat.beq q a then off else off + a * k) k (h - a) (q - a))) h) q) c else False
  | none, some (.slice e), .v (.slice none 0 0) =>
    bif (P.underlying e).isSome then boundA hi 0 (fun h => boundA lo 0 (fun _ => K (.v (.slice none 0 0))) h) 0 else False
  | _, _, _ => False

def loadA (P : Program) (env own : List Bx) (t : TypeId) (x : AV) (K : AV → Prop) : Prop :=
  match x with
  | .bp i off => match own[i]? with
    | some (.cells l _) => partA P t l off K
    | _ => False
  | .xp i off => ∃ l os, env[i]? = some (.cells l os) ∧ partA P t l off K
  | .ep l => partA P t l 0 K
  | _ => False

def lenA (P : Program) (own env : List Bx) (t : TypeId) (x : AV) (K : AV → Prop) : Prop :=
  match P.underlying t, x with
  | some .string, .v (.string s) => K (.v (.int .i64 s.size))
  | some (.slice _), .sl _ l => K (.v (.int .i64 l.length))
  | some (.slice _), .v (.slice none n _) => K (.v (.int .i64 n))
  | some (.slice _), .bs _ _ _ n _ => K (.v (.int .i64 n))
  | some (.slice _), .xs _ _ _ n _ => K (.v (.int .i64 n))
  | some (.map _ _), .mo i => match own[i]? with
    | some (.map l) => K (.v (.int .i64 l.length))
    | _ => False
  | some (.map _ _), .mx i => match env[i]? with
    | some (.map l) => K (.v (.int .i64 l.length))
    | _ => False
  | _, _ => False

def capA (P : Program) (t : TypeId) (x : AV) (K : AV → Prop) : Prop :=
  match P.underlying t, x with
  | some (.slice _), .bs _ _ _ _ c => K (.v (.int .i64 c))
  | some (.slice _), .xs _ _ _ _ c => K (.v (.int .i64 c))
  | some (.slice _), .v (.slice none _ c) => K (.v (.int .i64 c))
  | _, _ => False

def getM (l : List (ByteArray × AV)) (s : ByteArray) : Option AV :=
  match l with
  | [] => none
  | (k, x) :: r => if s = k then some x else getM r s

def setM (l : List (ByteArray × AV)) (s : ByteArray) (v : AV) : List (ByteArray × AV) :=
  match l with
  | [] => [(s, v)]
  | (k, x) :: r => if s = k then (s, v) :: r else (k, x) :: setM r s v

/-- A map's entries. -/
def mapOf (env own : List Bx) : AV → Option (List (ByteArray × AV))
  | .mo i => match own[i]? with
    | some (.map l) => some l
    | _ => none
  | .mx i => match env[i]? with
    | some (.map l) => some l
    | _ => none
  | .v (.map none) => some []
  | _ => none

theorem mapOf_mx {env own : List Bx} {k : Nat} {l : List (ByteArray × AV)} (h : env[k]? = some (.map l)) : mapOf env own (.mx k) = some l := by
  simp only [mapOf, h]

def lookupA (P : Program) (env own : List Bx) (t : TypeId) (m k : AV) (ok : Bool) (K : AV → Prop) : Prop :=
  match P.underlying t, k with
  | some (.map kt et), .v (.string s) => match P.underlying kt, P.info? et with
    | some .string, some i => match i.zero with
      | some z => bif okTmp 0 (.const z) && !VisTup z then
          ∃ l, mapOf env own m = some l ∧ (∀ x, getM l s = some x → K (bif ok then .tup [x, .v (.bool true)] else x)) ∧ (getM l s = none → K (bif ok then .tup [cst z, .v (.bool false)] else cst z))
        else False
      | none => False
    | _, _ => False
  | _, _ => False

def min2A (x y : AV) (K : AV → Prop) : Prop :=
  match x, y with
  | .v (.int k a), .v (.int _ b) => K (.v (.int k (if b < a then b else a)))
  | _, _ => False
def max2A (x y : AV) (K : AV → Prop) : Prop :=
  match x, y with
  | .v (.int k a), .v (.int _ b) => K (.v (.int k (if b > a then b else a)))
  | _, _ => False

/-- A truth value, and when it is known. -/
def bv : AV → Option (Bool × Bool)
  | .v (.bool x) => some (true, x)
  | .gv b (.v (.bool x)) => some (b, x)
  | _ => none

def pureA (P : Program) (env own : List Bx) (ρ : Operand → AV) (o : Oper) (K : AV → Prop) : Prop :=
  match o.op with
  | .move x => K (ρ x)
  | .assign x => K (ρ x)
  | .pick c a b => (match bv (ρ c), bv (ρ a), bv (ρ b) with
    | some (bc, t), some (b1, x), some (b2, y) => bc = true ∧ (t = true → b1 = true) ∧ (t = false → b2 = true) ∧ K (.v (.bool (bif t then x else y)))
    | _, _, _ => (match ρ c with
      | .v (.bool t) => (t = true → K (ρ a)) ∧ (t = false → K (ρ b))
      | _ => False))
  | .binOp op t x y _ => binA P op t x y (ρ x) (ρ y) K
  | .unOp op _ x => unA op (ρ x) K
  | .convert s d x => convA P s d (ρ x) K
  | .fieldAddr t x i => fieldAddrA P t (ρ x) i K
  | .field t x i => fieldA P t (ρ x) i K
  | .index t x i => indexA P t (ρ x) (ρ i) K
  | .indexAddr t x i => indexAddrA P t (ρ x) (ρ i) K
  | .slice t x lo hi mx => sliceA P t (ρ x) (lo.map ρ) (hi.map ρ) (mx.map ρ) K
  | .load t a => loadA P env own t (ρ a) K
  | .lookup t x i ok => lookupA P env own t (ρ x) (ρ i) ok K
  | .nilCheck x => match ρ x with
    | .bp i off => K (.bp i off)
    | .xp i off => K (.xp i off)
    | .ep l => K (.ep l)
    | _ => False
  | .makeInterface t x => (match P.underlying t, ρ x with
    | some (.interface _), _ => False
    | some _, .v y => bif y.oneCell' then K (.ifc t (.v y)) else False
    | some _, .sl k l => K (.ifc t (.sl k l))
    | some _, .agg l => bif pfLeaves l then K (.ifc t (.agg l)) else False
    | _, _ => False)
  | .makeFunc fn first cap => bif (first.toList.map ρ).all AV.isLeaf && (cap.toList.map ρ).all AV.isLeaf then K (.fn fn (first.toList.map ρ) (cap.toList.map ρ)) else False
  | .extract x i => match ρ x with
    | .tup l => match l[i]? with
      | some y => K y
      | none => False
    | _ => False
  | .call c => match c.callee, c.args.toList, c.argTypes.toList with
    | .builtin .len, [x], [t] => lenA P own env t (ρ x) K
    | .builtin .cap, [x], [t] => capA P t (ρ x) K
    | .builtin .min, [x, y], _ => min2A (ρ x) (ρ y) K
    | .builtin .max, [x, y], _ => max2A (ρ x) (ρ y) K
    | _, _, _ => False
  | _ => False

/-- The operation gives this tree, and leaves the world as it is. -/
def PureAt (P : Program) (env own : List Bx) (ρA : Operand → AV) (o : Oper) (v : AV) : Prop :=
  ∀ (ρ : Operand → Value) (w : World) (g : Gh), Good w g (env ++ own) env.length → (∀ x, x ∈ o.op.operands → Rep w g.hw g.bs env.length (ρA x) (ρ x)) →
    ∃ u, (execOp ρ o).run P w = .ok (.value u) w ∧ Rep w g.hw g.bs env.length v u

end Go.Ev
end
section
/- Written by this session: the operations that leave memory as it is give what the trees say. Conditions: none beyond those in each statement. -/
namespace Go.Ev
open Go

theorem cells_toList_of {y : Value} (h : VisAgg y = false) : y.cells.toList = [y] := by cases y <;> simp_all [Value.cells, VisAgg]
theorem agg_of {y : Value} (h : VisAgg y = true) : ∃ cs, y = .agg cs ∧ y.cells = cs := by cases y <;> simp_all [Value.cells, VisAgg]

section
variable {w : World} {hw : Hw} {bs : List Nat} {base : Nat} {y : Value}

theorem rep_v {x : Value} (h : Rep w hw bs base (.v x) y) : y = x ∧ VisAgg x = false := by
  rcases h with h | ⟨h1, h2⟩
  · cases h
  · simp only [AV.isAgg] at h2
    rw [cells_toList_of h2] at h1
    simp only [RepV] at h1
    simp at h1; subst h1; exact ⟨rfl, h2⟩
theorem rep_v_mk {x : Value} (h : VisAgg x = false) : Rep w hw bs base (.v x) x := .inr ⟨by simp [RepV, cells_toList_of h], by simp [AV.isAgg, h]⟩
theorem rep_int {k : IntKind} {n : Int} : Rep w hw bs base (.v (.int k n)) (.int k n) := rep_v_mk rfl
theorem rep_bool {b : Bool} : Rep w hw bs base (.v (.bool b)) (.bool b) := rep_v_mk rfl
theorem rep_string {s : ByteArray} : Rep w hw bs base (.v (.string s)) (.string s) := rep_v_mk rfl

theorem rep_agg {l : List AV} (h : Rep w hw bs base (.agg l) y) : ∃ cs, y = .agg cs ∧ RepL w hw bs base l cs.toList := by
  rcases h with h | ⟨h1, h2⟩
  · cases h
  · obtain ⟨cs, rfl, e⟩ := agg_of (by simpa [AV.isAgg] using h2)
    exact ⟨cs, rfl, by simpa [RepV, Value.cells] using h1⟩
theorem rep_agg_mk {l : List AV} {cs : Array Value} (h : RepL w hw bs base l cs.toList) : Rep w hw bs base (.agg l) (.agg cs) :=
  .inr ⟨by simpa [RepV, Value.cells] using h, rfl⟩

/-- A leaf is one cell. -/
theorem rep_leaf {a : AV} (hl : a.isAgg = false) (ht : a ≠ .top) (hu : ∀ l, a ≠ .tup l) (h : Rep w hw bs base a y) : RepV w hw bs base a [y] ∧ VisAgg y = false := by
  have h' : Rep1 w hw bs base a y := by cases a <;> first | exact h | exact absurd rfl (hu _)
  rcases h' with h | ⟨h1, h2⟩
  · exact absurd h ht
  · rw [hl] at h2
    rw [cells_toList_of h2] at h1
    exact ⟨h1, h2⟩

theorem rep_sl {k : Nat} {l : List AV} (h : Rep w hw bs base (.sl k l) y) : ∃ a c, y = .slice a l.length c ∧ l.length ≤ c ∧ 0 < k ∧ (l = [] ∨ ∃ b o cs, a = some ⟨b, o, none⟩ ∧ Cells w hw b o cs ∧ RepE w hw k l cs) := by
  have := (rep_leaf rfl (by simp) (by simp) h).1
  simp only [RepV] at this
  obtain ⟨a, c, e, r1, r2, r3⟩ := this
  simp at e
  exact ⟨a, c, e, r1, r2.1, r3⟩
theorem rep_fits {k : Nat} {l : List AV} (h : Rep w hw bs base (.sl k l) y) : Fits k l := by
  have := (rep_leaf rfl (by simp) (by simp) h).1
  simp only [RepV] at this
  obtain ⟨a, c, e, r1, r2, r3⟩ := this
  exact r2
theorem rep_bp {i off : Nat} (h : Rep w hw bs base (.bp i off) y) : ∃ b, bs[base + i]? = some b ∧ y = .pointer (some ⟨b, off, none⟩) := by
  have := (rep_leaf rfl (by simp) (by simp) h).1
  simp only [RepV] at this
  obtain ⟨b, e, r⟩ := this
  simp at r
  exact ⟨b, e, r⟩
theorem rep_xp {i off : Nat} (h : Rep w hw bs base (.xp i off) y) : i < base ∧ ∃ b, bs[i]? = some b ∧ y = .pointer (some ⟨b, off, none⟩) := by
  have := (rep_leaf rfl (by simp) (by simp) h).1
  simp only [RepV] at this
  obtain ⟨h0, b, e, r⟩ := this
  simp at r
  exact ⟨h0, b, e, r⟩
theorem rep_mo {i : Nat} (h : Rep w hw bs base (.mo i) y) : ∃ b, bs[base + i]? = some b ∧ y = .map (some b) := by
  have := (rep_leaf rfl (by simp) (by simp) h).1
  simp only [RepV] at this
  obtain ⟨b, e, r⟩ := this
  simp at r
  exact ⟨b, e, r⟩
theorem rep_mx {i : Nat} (h : Rep w hw bs base (.mx i) y) : i < base ∧ ∃ b, bs[i]? = some b ∧ y = .map (some b) := by
  have := (rep_leaf rfl (by simp) (by simp) h).1
  simp only [RepV] at this
  obtain ⟨h0, b, e, r⟩ := this
  simp at r
  exact ⟨h0, b, e, r⟩
theorem rep_bs {i off k n c : Nat} (h : Rep w hw bs base (.bs i off k n c) y) : ∃ b, bs[base + i]? = some b ∧ 0 < k ∧ n ≤ c ∧ c ≤ 9223372036854775807 ∧ y = .slice (some ⟨b, off, none⟩) n c := by
  have := (rep_leaf rfl (by simp) (by simp) h).1
  simp only [RepV] at this
  obtain ⟨b, e, h1, h2, h3, r⟩ := this
  simp at r
  exact ⟨b, e, h1, h2, h3, r⟩
theorem rep_xs {i off k n c : Nat} (h : Rep w hw bs base (.xs i off k n c) y) : i < base ∧ ∃ b, bs[i]? = some b ∧ 0 < k ∧ n ≤ c ∧ c ≤ 9223372036854775807 ∧ y = .slice (some ⟨b, off, none⟩) n c := by
  have := (rep_leaf rfl (by simp) (by simp) h).1
  simp only [RepV] at this
  obtain ⟨h0, b, e, h1, h2, h3, r⟩ := this
  simp at r
  exact ⟨h0, b, e, h1, h2, h3, r⟩
theorem rep_ep {l : List AV} (h : Rep w hw bs base (.ep l) y) : ∃ b o cs, y = .pointer (some ⟨b, o, none⟩) ∧ Cells w hw b o cs ∧ RepL w hw [] 0 l cs := by
  have := (rep_leaf rfl (by simp) (by simp) h).1
  simp only [RepV] at this
  obtain ⟨b, o, cs, e, r⟩ := this
  simp at e
  exact ⟨b, o, cs, e, r⟩
theorem rep_mk_leaf {a : AV} (ha : a.isAgg = false) (hy : VisAgg y = false) (h : RepV w hw bs base a [y]) : Rep w hw bs base a y := by
  have h1 : Rep1 w hw bs base a y := .inr ⟨by rw [cells_toList_of hy]; exact h, by rw [hy, ha]⟩
  cases a <;> first | exact h1 | (simp only [RepV] at h)
theorem rep_bp_mk {i off b : Nat} (h : bs[base + i]? = some b) : Rep w hw bs base (.bp i off) (.pointer (some ⟨b, off, none⟩)) := rep_mk_leaf rfl rfl (by simp only [RepV]; exact ⟨b, h, rfl⟩)
theorem rep_xp_mk {i off b : Nat} (h0 : i < base) (h : bs[i]? = some b) : Rep w hw bs base (.xp i off) (.pointer (some ⟨b, off, none⟩)) := rep_mk_leaf rfl rfl (by simp only [RepV]; exact ⟨h0, b, h, rfl⟩)
theorem rep_ep_mk {l : List AV} {b o : Nat} {cs : List Value} (h1 : Cells w hw b o cs) (h2 : RepL w hw [] 0 l cs) : Rep w hw bs base (.ep l) (.pointer (some ⟨b, o, none⟩)) := rep_mk_leaf rfl rfl (by simp only [RepV]; exact ⟨b, o, cs, rfl, h1, h2⟩)
theorem rep_sl_mk {k n : Nat} {l : List AV} {a : Option Addr} {c : Nat} (hn : n = l.length) (hc : l.length ≤ c) (hk : Fits k l) (h : l = [] ∨ ∃ b o cs, a = some ⟨b, o, none⟩ ∧ Cells w hw b o cs ∧ RepE w hw k l cs) : Rep w hw bs base (.sl k l) (.slice a n c) :=
  rep_mk_leaf rfl rfl (by simp only [RepV]; exact ⟨a, c, by rw [hn], hc, hk, h⟩)

theorem RepL.length : ∀ {l : List AV} {vs : List Value}, RepL w hw bs base l vs → vs.length = l.length
  | [], _, h => by simp only [RepL] at h; subst h; rfl
  | x :: xs, _, h => by simp only [RepL] at h; obtain ⟨v, vs', rfl, _, h⟩ := h; simp [RepL.length h]
theorem RepL.drop : ∀ {l : List AV} {vs : List Value} (n : Nat), RepL w hw bs base l vs → RepL w hw bs base (l.drop n) (vs.drop n)
  | l, vs, 0, h => by simpa using h
  | [], _, n + 1, h => by simp only [RepL] at h; subst h; simp [RepL]
  | x :: xs, _, n + 1, h => by simp only [RepL] at h; obtain ⟨v, vs', rfl, _, h⟩ := h; simpa using RepL.drop n h
theorem RepL.take : ∀ {l : List AV} {vs : List Value} (n : Nat), RepL w hw bs base l vs → RepL w hw bs base (l.take n) (vs.take n)
  | l, vs, 0, h => by simp [RepL]
  | [], _, n + 1, h => by simp only [RepL] at h; subst h; simp [RepL]
  | x :: xs, _, n + 1, h => by
    simp only [RepL] at h; obtain ⟨v, vs', rfl, h1, h⟩ := h
    simp only [List.take_succ_cons, RepL]
    exact ⟨v, _, rfl, h1, RepL.take n h⟩
theorem RepL.get : ∀ {l : List AV} {vs : List Value} {n : Nat} {x : AV}, RepL w hw bs base l vs → l[n]? = some x → ∃ v, vs[n]? = some v ∧ RepV w hw bs base x [v] ∧ x.isAgg = false ∧ v.oneCell' = true
  | [], _, _, _, _, h => by simp at h
  | a :: l, _, 0, x, h, e => by simp only [RepL] at h; obtain ⟨v, vs', rfl, h1, h⟩ := h; simp at e; subst e; exact ⟨v, rfl, h1⟩
  | a :: l, _, n + 1, x, h, e => by simp only [RepL] at h; obtain ⟨v, vs', rfl, h1, h⟩ := h; simp at e; simpa using RepL.get h e
/-- One cell alone: no struct. -/
theorem repV_one {x : AV} {v : Value} (hv : v.oneCell' = true) (hx : x.isAgg = false) (h : RepV w hw bs base x [v]) : Rep w hw bs base x v := rep_mk_leaf hx (visAgg_of hv) h

theorem RepE.len : ∀ {k : Nat} {l : List AV} {vs : List Value}, RepE w hw k l vs → vs.length = l.length * k
  | _, [], _, h => by simp only [RepE] at h; subst h; simp
  | k, x :: xs, vs, h => by
    simp only [RepE] at h
    obtain ⟨h0, _, h⟩ := h
    have := RepE.len h
    simp only [List.length_drop] at this
    simp only [List.length_cons, Nat.succ_mul]
    omega
theorem RepE.drop : ∀ {k : Nat} {l : List AV} {vs : List Value} (n : Nat), RepE w hw k l vs → RepE w hw k (l.drop n) (vs.drop (n * k))
  | _, _, _, 0, h => by simpa using h
  | _, [], _, n + 1, h => by simp only [RepE] at h; subst h; simp [RepE]
  | k, x :: xs, vs, n + 1, h => by
    simp only [RepE] at h
    obtain ⟨h0, _, h⟩ := h
    have := RepE.drop n h
    rw [List.drop_drop] at this
    simp only [List.drop_succ_cons]
    rwa [show (n + 1) * k = k + n * k from by rw [Nat.succ_mul]; omega]
theorem RepE.take : ∀ {k : Nat} {l : List AV} {vs : List Value} (n : Nat), RepE w hw k l vs → RepE w hw k (l.take n) (vs.take (n * k))
  | _, _, _, 0, h => by simp [RepE]
  | _, [], _, n + 1, h => by simp only [RepE] at h; subst h; simp [RepE]
  | k, x :: xs, vs, n + 1, h => by
    simp only [RepE] at h
    obtain ⟨h0, h1, h⟩ := h
    have := RepE.take n h
    simp only [List.take_succ_cons, RepE]
    have e : (n + 1) * k = k + n * k := by rw [Nat.succ_mul]; omega
    refine ⟨by simp only [List.length_take]; rw [e]; omega, ?_, ?_⟩
    · rw [List.take_take, Nat.min_eq_left (by rw [e]; omega)]; exact h1
    · rw [e, List.drop_take]; simpa using this
theorem RepE.get {k : Nat} {l : List AV} {vs : List Value} {n : Nat} {x : AV} (h : RepE w hw k l vs) (e : l[n]? = some x) : (n + 1) * k ≤ vs.length ∧ RepV w hw [] 0 x ((vs.drop (n * k)).take k) ∧ (x.isAgg = false → ∀ v ∈ (vs.drop (n * k)).take k, v.oneCell' = true) := by
  have h' := RepE.drop n h
  have hn : n < l.length := by
    rcases Nat.lt_or_ge n l.length with h | h
    · exact h
    · rw [List.getElem?_eq_none h] at e; cases e
  have : l.drop n = x :: l.drop (n + 1) := by
    rw [List.drop_eq_getElem_cons hn]
    simp [List.getElem?_eq_getElem hn] at e
    rw [e]
  rw [this] at h'
  simp only [RepE] at h'
  have hl := RepE.len h
  refine ⟨?_, h'.2.1⟩
  rw [hl]
  exact Nat.mul_le_mul_right _ hn
theorem repV_leaves {x : AV} {vs : List Value} (h : RepV w hw bs base x vs) (hv : x.isAgg = false → ∀ v ∈ vs, v.oneCell' = true) : RepL w hw bs base x.leaves vs := by
  have one : ∀ v, vs = [v] → x.isAgg = false → RepL w hw bs base [x] vs := fun v e hx => by
    subst e
    simp only [RepL]
    exact ⟨v, [], rfl, ⟨h, hx, hv hx v (by simp)⟩, rfl⟩
  cases x
  case agg l => simpa only [AV.leaves, RepV] using h
  case tup => simp only [RepV] at h
  all_goals
    simp only [AV.leaves]
    have h0 := h
    simp only [RepV] at h0
  case top => obtain ⟨v, e⟩ := h0; exact one _ e rfl
  case v => exact one _ h0 rfl
  case sl k l => obtain ⟨a, c, e, r⟩ := h0; exact one _ e rfl
  case bp => obtain ⟨b, _, e⟩ := h0; exact one _ e rfl
  case xp => obtain ⟨_, b, _, e⟩ := h0; exact one _ e rfl
  case mo => obtain ⟨b, _, e⟩ := h0; exact one _ e rfl
  case mx => obtain ⟨_, b, _, e⟩ := h0; exact one _ e rfl
  case bs => obtain ⟨b, _, _, _, _, e⟩ := h0; exact one _ e rfl
  case xs => obtain ⟨_, b, _, _, _, _, e⟩ := h0; exact one _ e rfl
  case gv => obtain ⟨v, e, _⟩ := h0; exact one _ e rfl
  case ep => obtain ⟨b, o, cs, e, r⟩ := h0; exact one _ e rfl
  case fn => obtain ⟨b, o, e, r⟩ := h0; exact one _ e rfl
  case ifc => obtain ⟨b, e, r⟩ := h0; exact one _ e rfl
theorem Cells.take {b o : Nat} {vs : List Value} (n : Nat) (h : Cells w hw b o vs) : Cells w hw b o (vs.take n) := by
  obtain ⟨m, e, le, c⟩ := h
  exact ⟨m, e, by simp only [List.length_take]; omega, fun j v hj => c j v (by
    rw [List.getElem?_take] at hj; split at hj <;> simp_all)⟩
theorem Cells.drop {b o : Nat} {vs : List Value} (n : Nat) (hn : n ≤ vs.length) (h : Cells w hw b o vs) : Cells w hw b (o + n) (vs.drop n) := by
  obtain ⟨m, e, le, c⟩ := h
  exact ⟨m, e, by simp only [List.length_drop]; omega, fun j v hj => by
    rw [List.getElem?_drop] at hj
    have := c _ v hj
    rwa [← Nat.add_assoc] at this⟩
end
end Go.Ev
end
