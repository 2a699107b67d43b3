/- Written by programs of this session: laws and contracts that the law's proof stands on, merged into one text. Conditions: none beyond those in each statement. -/
import Derived.Test.YtepdiooaoegpfaaGreatDoorPkEv16
import Derived.KernelRfl
section
/- Written by this session: helpers for proofs of functions over trees. Conditions: none beyond those in each statement. -/
namespace Go.Ev
open Go

theorem cTrue {b : Bool} {A B : Prop} (hb : b = true) (h : A) : (b = true → A) ∧ (b = false → B) := ⟨fun _ => h, fun e => by rw [hb] at e; cases e⟩
theorem cFalse {b : Bool} {A B : Prop} (hb : b = false) (h : B) : (b = true → A) ∧ (b = false → B) := ⟨fun e => by (rw [hb] at e; cases e), fun _ => h⟩

theorem pfL_append : ∀ {a b : List AV}, pfL a = true → pfL b = true → pfL (a ++ b) = true
  | [], _, _, h => h
  | x :: a, b, h1, h2 => by simp only [pfL, List.cons_append, Bool.and_eq_true] at h1 ⊢; exact ⟨h1.1, pfL_append h1.2 h2⟩
theorem pfL_rep {a : List AV} (h : pfL a = true) : ∀ n : Nat, pfL (List.replicate n a).flatten = true
  | 0 => rfl
  | n + 1 => by rw [List.replicate_succ, List.flatten_cons]; exact pfL_append h (pfL_rep h n)
theorem repLen {α : Type} {a : List α} (n : Nat) : (List.replicate n a).flatten.length = n * a.length := by
  simp

/-- Elements of k leaves each, without pointers to boxes. -/
def Els (k : Nat) (l : List AV) : Prop := ∀ x ∈ l, x.leaves.length = k ∧ pfL x.leaves = true
theorem Els.len {k : Nat} : ∀ {l : List AV}, Els k l → (l.flatMap AV.leaves).length = l.length * k
  | [], _ => by simp
  | x :: l, h => by
    have h1 := (h x (List.mem_cons_self ..)).1
    have h2 := Els.len (l := l) fun y hy => h y (List.mem_cons_of_mem _ hy)
    simp only [List.flatMap_cons, List.length_append, h1, h2, List.length_cons, Nat.add_mul]; omega
theorem Els.pf {k : Nat} : ∀ {l : List AV}, Els k l → pfL (l.flatMap AV.leaves) = true
  | [], _ => rfl
  | x :: l, h => by
    simp only [List.flatMap_cons]
    exact pfL_append (h x (List.mem_cons_self ..)).2 (Els.pf fun y hy => h y (List.mem_cons_of_mem _ hy))

/-- A slice of its own, in a new box. -/
def NewSl (env : List Bx) (k : Nat) (l : List AV) (r : AV) (env' : List Bx) : Prop :=
  (r = .v (.slice none 0 0) ∧ l = [] ∧ env' = env) ∨
  ∃ new i c zs, env' = env ++ new ∧ r = .xs (env.length + i) 0 k l.length c ∧ l.length ≤ c ∧ c ≤ 9223372036854775807 ∧ new[i]? = some (.cells (l.flatMap AV.leaves ++ zs) []) ∧ (l.flatMap AV.leaves ++ zs).length = c * k ∧ pfL zs = true

theorem newSl_of {env own : List Bx} {k : Nat} {l zs : List AV} {i n c : Nat} (he : Els k l) (hz : pfL zs = true) (hn : n = l.length) (hc : n ≤ c) (hc' : c ≤ 9223372036854775807) (h : own[i]? = some (.cells (l.flatMap AV.leaves ++ zs) [])) (hl : zs.length = (c - n) * k) :
    NewSl env k l (.xs (env.length + i) 0 k n c) (env ++ own.map (Bx.up env.length)) := by
  subst hn
  refine .inr ⟨_, i, c, zs, rfl, rfl, hc, hc', ?_, ?_, hz⟩
  · rw [List.getElem?_map, h]
    simp only [Option.map_some, Bx.up, upL_pf _ _ (pfL_append he.pf hz)]
  · rw [List.length_append, he.len, hl, ← Nat.add_mul]; congr 1; omega

/-- Shut, it is that slice. -/
theorem NewSl.shut {env env' : List Bx} {k : Nat} {l : List AV} {r : AV} (hk : 0 < k) (he : Els k l) (h47 : l.length ≤ 140737488355328) (h : NewSl env k l r env') : ∃ new, env' = env ++ new ∧ Shut env' env.length r (.sl k l) := by
  rcases h with ⟨rfl, rfl, rfl⟩ | ⟨new, i, c, zs, rfl, rfl, hc, _, hi, hl, _⟩
  · refine ⟨[], by simp, ?_⟩
    simp only [Shut]
    exact .inr ⟨k, 0, hk, rfl, rfl⟩
  · refine ⟨new, rfl, ?_⟩
    simp only [Shut]
    refine ⟨by omega, _, _, l, by rw [List.getElem?_append_right (by omega), Nat.add_sub_cancel_left]; exact hi, rfl, rfl, ?_, h47, ?_, he⟩
    · rw [hl, Nat.zero_add]; exact Nat.mul_le_mul_right _ hc
    · rw [List.drop_zero, ← he.len, List.take_left']; rfl

/-- A loop that counts. -/
theorem XW.upto {P : Program} {n : Nat} {x : Code} {Q : Exit → Cfg → Prop} {c c0 : Cfg} (N : Nat) (J : Nat → Cfg → Prop) (hw : Weak n c c0) (h0 : J 0 c0)
    (round : ∀ i c, i ≤ N → J i c → XW P n x (Then (fun c' => i < N ∧ ∃ c'', Weak n c' c'' ∧ J (i + 1) c'') Q) c) : XW P n (.loop x) Q c := by
  refine XW.loop (fun m c => ∃ i, i ≤ N ∧ m = N - i ∧ J i c) (m := N) hw ⟨0, Nat.zero_le _, rfl, h0⟩ ?_
  rintro m c ⟨i, hi, rfl, hJ⟩
  refine (round i c hi hJ).mono fun e c' q => ?_
  cases e with
  | normal =>
    obtain ⟨hlt, c'', h1, h2⟩ := q
    exact ⟨N - (i + 1), c'', by omega, h1, i + 1, by omega, rfl, h2⟩
  | _ => exact q

theorem wrapId {x : Int} (h0 : -9223372036854775808 ≤ x) (h1 : x < 9223372036854775808) : IntKind.i64.wrap x = x := by rw [IntKind.wrap_i64]; omega
theorem getD_map {α : Type} {f : α → AV} {l : List α} {n : Nat} (d : α) (h : n < l.length) : (l.map f).getD n .top = f (l.getD n d) := by
  simp [List.getD_eq_getElem?_getD, h]
theorem drop_getD {α : Type} (d : α) {l : List α} {i : Nat} (h : i < l.length) : l.drop i = l.getD i d :: l.drop (i + 1) := by
  rw [List.drop_eq_getElem_cons h]; simp [List.getD_eq_getElem?_getD, h]
end Go.Ev
end
section
/- Written by this session: loops over a state, where only the slots that change are named. Conditions: none beyond those in each statement. -/
namespace Go.Ev
open Go

def inKeys (ks : List Nat) (i : Nat) : Bool := match ks with
  | [] => false
  | k :: r => bif Nat.beq k i then true else inKeys r i
def cleanFr (ks : List Nat) : Fr → Fr
  | [] => []
  | (i, x) :: r => bif inKeys ks i then cleanFr ks r else (i, x) :: cleanFr (i :: ks) r
def keysOf : Fr → List Nat
  | [] => []
  | (i, _) :: r => i :: keysOf r
def appFr : Fr → Fr → Fr
  | [], g => g
  | x :: r, g => x :: appFr r g
/-- A configuration in which some slots hold other trees. -/
def Cfg.upd (c : Cfg) (vs : Fr) : Cfg := { c with fr := appFr vs (cleanFr (keysOf vs) c.fr) }
theorem andL {a b : Bool} (h : (a && b) = true) : a = true := by cases a <;> simp_all
theorem andR {a b : Bool} (h : (a && b) = true) : b = true := by cases a <;> simp_all
theorem bTF {b : Bool} (h : b = true) (k : b = false) : False := by rw [h] at k; cases k
theorem gY {b w : Bool} {A B : Prop} (h : b = w) (k : A) : (b = w → A) ∧ (b ≠ w → B) := ⟨fun _ => k, fun n => absurd h n⟩
theorem gTF {b : Bool} {A B : Prop} (h : b = true) (k : B) : (b = false → A) ∧ (b ≠ false → B) := ⟨fun e => (bTF h e).elim, fun _ => k⟩
theorem gFT {b : Bool} {A B : Prop} (h : b = false) (k : B) : (b = true → A) ∧ (b ≠ true → B) := ⟨fun e => (bTF e h).elim, fun _ => k⟩
theorem gsT {b : Bool} {A B : Prop} (h : b = true → A) (k : b = false → B) : (b = true → A) ∧ (b ≠ true → B) := ⟨h, fun n => k (by cases b <;> simp_all)⟩
theorem gsF {b : Bool} {A B : Prop} (h : b = false → A) (k : b = true → B) : (b = false → A) ∧ (b ≠ false → B) := ⟨h, fun n => k (by cases b <;> simp_all)⟩
theorem notF {a : Bool} (h : a = false) : (!a) = true := by rw [h]; rfl
theorem andI {a b : Bool} (h : a = true) (k : b = true) : (a && b) = true := by rw [h, k]; rfl
theorem andN {a b : Bool} (h : a = true) (k : b = false) : (a && !b) = true := by rw [h, k]; rfl

theorem wrapTo {x y : Int} (h : x = y) (h0 : -9223372036854775808 ≤ x) (h1 : x < 9223372036854775808) : IntKind.i64.wrap x = y := by rw [wrapId h0 h1, h]
theorem drop_byte {s : ByteArray} {i : Nat} (h : i < s.size) : s.data.toList.drop i = byteAt s i :: s.data.toList.drop (i + 1) := by
  have h' : i < s.data.toList.length := by rw [Array.length_toList]; exact h
  rw [List.drop_eq_getElem_cons h']
  unfold byteAt
  rw [List.getD_eq_getElem?_getD, List.getElem?_eq_getElem h']; rfl
theorem drop_end {s : ByteArray} {i : Nat} (h : ¬ i < s.size) : s.data.toList.drop i = [] := by
  apply List.drop_eq_nil_of_le
  rw [Array.length_toList]
  exact Nat.le_of_not_lt h
theorem memB {i : Nat} : ∀ {l : List Nat}, inKeys l i = true → i ∈ l
  | [], h => by cases h
  | k :: r, h => by
    simp only [inKeys] at h
    cases hb : Nat.beq k i with
    | true => rw [Nat.eq_of_beq_eq_true hb]; exact List.mem_cons_self
    | false => rw [hb] at h; exact List.mem_cons_of_mem _ (memB h)
def cl1 (base m : Nat) (x : AV) : Prop :=
  match x with
  | .bp i _ | .mo i | .bs i _ _ _ _ => i < m
  | .xp i _ | .mx i | .xs i _ _ _ _ => i < base
  | .agg l => clL base m l
  | .fn _ a b => clL base m a ∧ clL base m b
  | .tup l => clL base m l
  | _ => True
theorem cl_of1 {base m : Nat} {x : AV} (h : cl1 base m x) : x.cl base m := by cases x <;> simp only [AV.cl, cl1] at * <;> exact h
def LeqL1 (base m : Nat) : List AV → List AV → Prop
  | [], [] => True
  | x :: xs, y :: ys => Leq x y ∧ cl1 base m y ∧ LeqL1 base m xs ys
  | _, _ => False
theorem LeqL_of1 {base m : Nat} : ∀ {l l0 : List AV}, LeqL1 base m l l0 → LeqL base m l l0
  | [], [], _ => trivial
  | _ :: _, _ :: _, h => ⟨h.1, cl_of1 h.2.1, LeqL_of1 h.2.2⟩
  | [], _ :: _, h => h.elim
  | _ :: _, [], h => h.elim
def FrLeq1 (base m : Nat) (f : Fr) : Fr → Prop
  | [] => True
  | (i, y) :: r => Leq (Fr.get f i) y ∧ cl1 base m y ∧ FrLeq1 base m f r
theorem FrLeq_of1 {base m : Nat} {f : Fr} : ∀ {g : Fr}, FrLeq1 base m f g → FrLeq base m f g
  | [], _ => trivial
  | (_, _) :: _, h => ⟨h.1, cl_of1 h.2.1, FrLeq_of1 h.2.2⟩
def OwnLeq1 (base m : Nat) : List Bx → List Bx → Prop
  | _, [] => True
  | .cells l os :: r, .cells l0 os0 :: r0 => LeqL1 base m l l0 ∧ (∀ j ∈ os0, (j ∈ os ∨ l[j]? = some (.v (.slice none 0 0))) ∧ (l0[j]?.bind AV.slK).isSome = true) ∧ OwnLeq1 base m r r0
  | .map l :: r, .map l0 :: r0 => l = l0 ∧ OwnLeq1 base m r r0
  | _, _ => False
theorem OwnLeq_of1 {base m : Nat} : ∀ {l l0 : List Bx}, OwnLeq1 base m l l0 → OwnLeq base m l l0
  | _, [], _ => by unfold OwnLeq; trivial
  | .cells _ _ :: _, .cells _ _ :: _, h => ⟨LeqL_of1 h.1, h.2.1, OwnLeq_of1 h.2.2⟩
  | .map _ :: _, .map _ :: _, h => ⟨h.1, OwnLeq_of1 h.2⟩
  | [], .cells _ _ :: _, h => h.elim
  | [], .map _ :: _, h => h.elim
  | .map _ :: _, .cells _ _ :: _, h => h.elim
  | .cells _ _ :: _, .map _ :: _, h => h.elim

/-- What may be forgotten, tried out (counters too). -/
theorem Weak.go {n : Nat} {c c0 : Cfg} (he : c0.env = c.env := by rfl)
    (hf : FrLeq1 c.base c0.own.length c.fr c0.fr := by repeat' (first | ((with_reducible show Leq _ _); first | exact Or.inr (Or.inl rfl) | exact Or.inr (Or.inl (congrArg (fun z => AV.v (Value.int IntKind.i64 z)) (wrapTo (by omega) (by omega) (by omega)))) | exact Or.inr (Or.inl (congrArg (fun z => AV.v (Value.int IntKind.i64 z)) (by simp only [List.length_map]))) | exact Or.inr (Or.inl (congrArg (AV.sl _) (by assumption))) | exact Or.inr (Or.inr ⟨rfl, _, by decide, rfl⟩) | exact Or.inl rfl | fail) | ((with_reducible show cl1 _ _ _); first | exact trivial | exact Nat.le_of_ble_eq_true rfl | (refine ⟨?_, ?_⟩)) | ((with_reducible show clL _ _ _); first | exact trivial | (refine ⟨?_, ?_⟩)) | ((with_reducible show FrLeq1 _ _ _ _); first | exact trivial | (refine ⟨?_, ?_, ?_⟩)) | assumption))
    (ho : OsLeq n c c0.fr c0.os := by repeat' (first | ((with_reducible show OsLeq _ _ _ _); first | exact trivial | refine ⟨?_, ?_, ?_⟩) | ((with_reducible show _ ∨ _); first | exact Or.inl (memB rfl) | exact Or.inr ⟨Nat.le_of_ble_eq_true rfl, rfl⟩ | fail) | exact rfl))
    (hw : OwnLeq1 c.base c0.own.length c.own c0.own := by repeat' (first | ((with_reducible show Leq _ _); first | exact Or.inr (Or.inl rfl) | exact Or.inr (Or.inl (congrArg (fun z => AV.v (Value.int IntKind.i64 z)) (wrapTo (by omega) (by omega) (by omega)))) | exact Or.inr (Or.inl (congrArg (fun z => AV.v (Value.int IntKind.i64 z)) (by simp only [List.length_map]))) | exact Or.inr (Or.inl (congrArg (AV.sl _) (by assumption))) | exact Or.inr (Or.inr ⟨rfl, _, by decide, rfl⟩) | exact Or.inl rfl | fail) | ((with_reducible show cl1 _ _ _); first | exact trivial | exact Nat.le_of_ble_eq_true rfl | (refine ⟨?_, ?_⟩)) | ((with_reducible show clL _ _ _); first | exact trivial | (refine ⟨?_, ?_⟩)) | ((with_reducible show LeqL1 _ _ _ _); first | exact trivial | (refine ⟨?_, ?_, ?_⟩)) | ((with_reducible show OwnLeq1 _ _ _ _); first | exact trivial | (refine ⟨?_, ?_, ?_⟩) | (refine ⟨rfl, ?_⟩) | (refine ⟨(by assumption), ?_⟩)) | exact (fun j hj => absurd hj List.not_mem_nil) | exact (fun j hj => by obtain rfl := List.mem_singleton.1 hj; exact ⟨by first | exact Or.inl (memB rfl) | exact Or.inr rfl, rfl⟩) | assumption)) : Weak n c c0 := Weak.of he (FrLeq_of1 hf) ho (OwnLeq_of1 hw)

theorem sizeOk {n b : Nat} (hb : Nat.ble b 4096 = true) (h : n ≤ 34359738368) : n * b ≤ 140737488355328 :=
  Nat.le_trans (Nat.mul_le_mul_left n (Nat.le_of_ble_eq_true hb)) (by omega)
theorem app_next {α : Type} (f : α → AV) {l : List α} {i : Nat} (d : α) (h : i < l.length) : (l.take i).map f ++ [f (l.getD i d)] = (l.take (i + 1)).map f := by
  rw [List.take_succ_eq_append_getElem h, List.map_append]; simp [List.getD_eq_getElem?_getD, h]
def keepFr (live : List Nat) (f : Fr) : Fr := match live with
  | [] => []
  | i :: r => (i, Fr.get f i) :: keepFr r f
/-- A configuration of which these slots are kept, with some more. -/
def Cfg.cut (c : Cfg) (live : List Nat) (vs : Fr) (os : List Nat) (own : List Bx) : Cfg := ⟨appFr vs (keepFr live c.fr), os, own, c.env⟩
def forceF (f : Fr) (K : Fr → Prop) : Prop :=
  match f with
  | [] => K []
  | (i, x) :: r => forceV x fun x' => forceF r fun r' => K ((i, x') :: r')
theorem forceF_iff : ∀ (f : Fr) (K : Fr → Prop), forceF f K ↔ K f
  | [], _ => Iff.rfl
  | (i, x) :: r, K => by simp only [forceF]; rw [forceV_iff]; exact forceF_iff r _
/-- Code from a configuration that is seen first. -/
theorem codeS {P : Program} {n : Nat} {cd : Code} {Q : Exit → Cfg → Prop} {c : Cfg} (h : forceF c.fr fun f => forceO c.own fun o => codeA P n cd Q ⟨f, c.os, o, c.env⟩) : XW P n cd Q c := by
  rw [forceF_iff, forceO_iff] at h
  exact codeA_sound _ _ _ h

/-- A loop over a state. -/
theorem XW.over {P : Program} {n : Nat} {x : Code} {Q : Exit → Cfg → Prop} {c : Cfg} {σ : Type} (F : σ → Cfg) (S : σ → Prop) (m : σ → Nat) (s0 : σ) (hw : Weak n c (F s0)) (h0 : S s0)
    (round : ∀ s, S s → XW P n x (Then (fun c' => ∃ s', m s' < m s ∧ S s' ∧ Weak n c' (F s')) Q) (F s)) : XW P n (.loop x) Q c := by
  refine XW.loop (fun k c => ∃ s, k = m s ∧ S s ∧ c = F s) (m := m s0) hw ⟨s0, rfl, h0, rfl⟩ ?_
  rintro k c ⟨s, rfl, hS, rfl⟩
  refine (round s hS).mono fun e c' q => ?_
  cases e with
  | normal =>
    obtain ⟨s', h1, h2, h3⟩ := q
    exact ⟨m s', F s', h1, h3, s', rfl, h2, rfl⟩
  | _ => exact q

/-- A loop that counts, where vs names the slots that change. -/
theorem XW.count {P : Program} {n : Nat} {x : Code} {Q : Exit → Cfg → Prop} {c : Cfg} (N : Nat) (vs : Nat → Fr) (A : Nat → Prop) (hw : Weak n c (c.upd (vs 0))) (h0 : A 0)
    (round : ∀ i, i ≤ N → A i → XW P n x (Then (fun c' => i < N ∧ A (i + 1) ∧ Weak n c' (c.upd (vs (i + 1)))) Q) (c.upd (vs i))) : XW P n (.loop x) Q c := by
  refine XW.over (fun i => c.upd (vs i)) (fun i => i ≤ N ∧ A i) (fun i => N - i) 0 hw ⟨Nat.zero_le _, h0⟩ ?_
  rintro i ⟨hi, hA⟩
  refine (round i hi hA).mono fun e c' q => ?_
  cases e with
  | normal =>
    obtain ⟨h1, h2, h3⟩ := q
    exact ⟨i + 1, by omega, ⟨by omega, h2⟩, h3⟩
  | _ => exact q

/-- A loop over a state: the slots that are kept, the slots and the boxes that change. -/
theorem XW.overL {P : Program} {n : Nat} {x : Code} {Q : Exit → Cfg → Prop} {c : Cfg} {σ : Type} (live : List Nat) (vs : σ → Fr) (os : σ → List Nat) (own : σ → List Bx) (S : σ → Prop) (m : σ → Nat) (s0 : σ) (hw : Weak n c (c.cut live (vs s0) (os s0) (own s0))) (h0 : S s0)
    (round : ∀ s, S s → XW P n x (Then (fun c' => ∃ s', m s' < m s ∧ S s' ∧ Weak n c' (c.cut live (vs s') (os s') (own s'))) Q) (c.cut live (vs s) (os s) (own s))) : XW P n (.loop x) Q c :=
  XW.over (fun s => c.cut live (vs s) (os s) (own s)) S m s0 hw h0 round

/-- As count: the slots that are kept, the slots and the boxes that change. -/
theorem XW.countL {P : Program} {n : Nat} {x : Code} {Q : Exit → Cfg → Prop} {c : Cfg} (N : Nat) (live : List Nat) (vs : Nat → Fr) (os : Nat → List Nat) (own : Nat → List Bx) (A : Nat → Prop) (hw : Weak n c (c.cut live (vs 0) (os 0) (own 0))) (h0 : A 0)
    (round : ∀ i, i ≤ N → A i → XW P n x (Then (fun c' => i < N ∧ A (i + 1) ∧ Weak n c' (c.cut live (vs (i + 1)) (os (i + 1)) (own (i + 1)))) Q) (c.cut live (vs i) (os i) (own i))) : XW P n (.loop x) Q c := by
  refine XW.over (fun i => c.cut live (vs i) (os i) (own i)) (fun i => i ≤ N ∧ A i) (fun i => N - i) 0 hw ⟨Nat.zero_le _, h0⟩ ?_
  rintro i ⟨hi, hA⟩
  refine (round i hi hA).mono fun e c' q => ?_
  cases e with
  | normal =>
    obtain ⟨h1, h2, h3⟩ := q
    exact ⟨i + 1, by omega, ⟨by omega, h2⟩, h3⟩
  | _ => exact q
end Go.Ev
end
section
/- Written by this session: contracts over memory that leave all of it as it is, as contracts over trees. Conditions: none beyond those in each statement. -/
namespace Go.Ev
open Go Go.RowKit

section
variable {w w' : World} {g : Gh} {mem : List Bx} {base : Nat}

theorem cell?_block {b : Nat} {o : Nat} (h : w'.heap[b]? = w.heap[b]?) : w'.cell? ⟨b, o, none⟩ = w.cell? ⟨b, o, none⟩ := by
  unfold World.cell?
  rw [h]

theorem HwLe.below (G : Good w g mem base) (B : Below w.heap.size w w') : HwLe w g.hw w' g.hw := fun b h e => by
  obtain ⟨cs, et, f, hh, _⟩ := G.hw b h e
  exact ⟨h, e, Nat.le_refl _, fun o _ => cell?_block (B.block b (Array.getElem?_eq_some_iff.1 hh).1)⟩

theorem Good.below (G : Good w g mem base) (B : Below w.heap.size w w') : Good w' g mem base where
  len := G.len
  nd := G.nd
  nohw := G.nohw
  box i x b hx hb := by
    have h := G.box i x b hx hb
    have H := HwLe.below G B
    cases x with
    | cells l os =>
      obtain ⟨cs, e, hh, hr, ho⟩ := h
      refine ⟨cs, e, (B.block b (Array.getElem?_eq_some_iff.1 hh).1).trans hh, hr.mono H (fun _ _ h => h), fun j hj => ?_⟩
      obtain ⟨k, l', y, h1, h2, h3⟩ := ho j hj
      refine ⟨k, l', y, h1, h2, h3.mono fun b' hb' => ⟨hb', rfl, ?_⟩⟩
      obtain ⟨h, e'⟩ := G.own b' _ hb'
      obtain ⟨cs', et, f, hh', _⟩ := G.hw b' h e'
      exact B.block b' (Array.getElem?_eq_some_iff.1 hh').1
    | map l =>
      obtain ⟨es, n, hh, hr⟩ := h
      exact ⟨es, n, (B.block b (Array.getElem?_eq_some_iff.1 hh).1).trans hh, hr.mono H⟩
  hw b h e := by
    obtain ⟨cs, et, f, hh, hle⟩ := G.hw b h e
    exact ⟨cs, et, f, (B.block b (Array.getElem?_eq_some_iff.1 hh).1).trans hh, hle⟩
  own := G.own
  glob := G.glob.mono (HwLe.below G B)

theorem Ext.below (keep : Loc → Prop) (G : Good w g mem base) (B : Below w.heap.size w w') : Ext keep w g w' g where
  size := B.size
  tape := B.tape
  os := B.os
  output := B.output
  hw := HwLe.below G B
  ext b L h _ := by
    refine ⟨h, rfl, ?_⟩
    obtain ⟨k, e⟩ := G.own b L h
    obtain ⟨cs, et, f, hh, _⟩ := G.hw b k e
    exact B.block b (Array.getElem?_eq_some_iff.1 hh).1
  bs _ _ h := h
  bsnew _ h := .inl h
  orig _ _ L h := ⟨L, h, fun _ => rfl⟩
  old b hb _ _ := B.block b hb
end

theorem repT_v {w : World} {hw : Hw} {bs : List Nat} {base : Nat} : ∀ (l : List Value) (vs : List Value), RepT w hw bs base (l.map .v) vs → vs = l
  | [], _, h => h
  | x :: l, _, h => by
    simp only [List.map_cons, RepT] at h
    obtain ⟨v, vs', rfl, h1, h2⟩ := h
    rw [(rep_v (x := x) (rep_of h1)).1, repT_v l _ h2]

/-- A contract over plain values. -/
theorem XPure.ofCalls {P : Program} {f : FuncId} {l : List Value} {r : AV} {u : Value} (hc : Callable P f) (hp : r.pf = true)
    (h : ∀ w : World, Calls P f l.toArray w fun e w' => e = .returned u ∧ Below w.heap.size w w')
    (hr : ∀ (w : World) (hw : Hw) (bs : List Nat) (base : Nat), Rep w hw bs base r u) : XPure P f (l.map .v) r false := by
  refine ⟨hc, hp, fun env w g vs G hs hv => ?_⟩
  obtain rfl := repT_v l vs hv
  refine (h w).mono ?_
  rintro e w' ⟨rfl, B⟩
  exact ⟨u, g, r, false, env, rfl, ⟨rfl, rfl, rfl⟩, Nat.le_refl _, G.below B, Ext.below _ G B, hr _ _ _ _, fun h => by cases h⟩
end Go.Ev
end
section
/- Written by this session: an empty slice that is nil is an empty slice. Conditions: none beyond those in each statement. -/
namespace Go.Ev
open Go

mutual
/-- y is x, where nil slices may be said to be empty ones. -/
def LeqD : AV → AV → Prop
  | .v (.slice none 0 0), y => y = .v (.slice none 0 0) ∨ ∃ k, 0 < k ∧ y = .sl k []
  | .agg l, y => ∃ l', y = .agg l' ∧ LeqDL l l'
  | .sl k l, y => ∃ l', y = .sl k l' ∧ LeqDL l l'
  | .tup l, y => ∃ l', y = .tup l' ∧ LeqDL l l'
  | x, y => x = y
def LeqDL : List AV → List AV → Prop
  | [], l => l = []
  | x :: xs, l => ∃ y ys, l = y :: ys ∧ LeqD x y ∧ LeqDL xs ys
end

theorem LeqDL.length : ∀ {l l' : List AV}, LeqDL l l' → l'.length = l.length
  | [], _, h => by simp only [LeqDL] at h; subst h; rfl
  | x :: xs, _, h => by
    simp only [LeqDL] at h
    obtain ⟨y, ys, rfl, _, h2⟩ := h
    simp only [List.length_cons, h2.length]
theorem LeqD.isAgg {x y : AV} (h : LeqD x y) : y.isAgg = x.isAgg := by
  cases x with
  | agg l => simp only [LeqD] at h; obtain ⟨l', rfl, _⟩ := h; rfl
  | sl k l => simp only [LeqD] at h; obtain ⟨l', rfl, _⟩ := h; rfl
  | tup l => simp only [LeqD] at h; obtain ⟨l', rfl, _⟩ := h; rfl
  | v z =>
    unfold LeqD at h
    split at h
    · rcases h with rfl | ⟨_, _, rfl⟩ <;> rfl
    · rename_i e; cases e
    · rename_i e; cases e
    · rename_i e; cases e
    · subst h; rfl
  | _ => simp only [LeqD] at h; subst h; rfl

mutual
theorem RepV.nils {w : World} {hw : Hw} {bs : List Nat} {base : Nat} : ∀ (x y : AV) (vs : List Value), LeqD x y → RepV w hw bs base x vs → RepV w hw bs base y vs
  | .v z, y, vs, h, hr => by
    unfold LeqD at h
    split at h
    · rename_i e
      cases e
      rcases h with rfl | ⟨k, hk, rfl⟩
      · exact hr
      · simp only [RepV] at hr ⊢
        subst hr
        exact ⟨none, 0, rfl, Nat.le_refl _, ⟨hk, by simp⟩, by simp⟩
    · rename_i e; cases e
    · rename_i e; cases e
    · rename_i e; cases e
    · subst h; exact hr
  | .sl k l, y, vs, h, hr => by
    simp only [LeqD] at h
    obtain ⟨l', rfl, h⟩ := h
    simp only [RepV] at hr ⊢
    obtain ⟨a, c, e, hc, hk, hr⟩ := hr
    have hl := LeqDL.length h
    refine ⟨a, c, by rw [hl]; exact e, by rw [hl]; exact hc, ⟨hk.1, by rw [hl]; exact hk.2⟩, ?_⟩
    rcases hr with rfl | ⟨b, o, cs, ea, hcs, hr⟩
    · simp only [LeqDL] at h; exact .inl h
    · exact .inr ⟨b, o, cs, ea, hcs, RepE.nils l l' cs h hr⟩
  | .agg l, y, vs, h, hr => by
    simp only [LeqD] at h
    obtain ⟨l', rfl, h⟩ := h
    simp only [RepV] at hr ⊢
    exact RepL.nils l l' vs h hr
  | .tup l, y, vs, h, hr => by simp only [RepV] at hr
  | .top, y, vs, h, hr | .bp _ _, y, vs, h, hr | .xp _ _, y, vs, h, hr | .mo _, y, vs, h, hr | .mx _, y, vs, h, hr | .bs .., y, vs, h, hr | .xs .., y, vs, h, hr | .gv _ _, y, vs, h, hr | .ep _, y, vs, h, hr | .fn .., y, vs, h, hr | .ifc _ _, y, vs, h, hr => by
    simp only [LeqD] at h; subst h; exact hr
theorem RepL.nils {w : World} {hw : Hw} {bs : List Nat} {base : Nat} : ∀ (l l' : List AV) (vs : List Value), LeqDL l l' → RepL w hw bs base l vs → RepL w hw bs base l' vs
  | [], _, _, h, hr => by simp only [LeqDL] at h; subst h; exact hr
  | x :: xs, _, _, h, hr => by
    simp only [LeqDL] at h
    obtain ⟨y, ys, rfl, h1, h2⟩ := h
    simp only [RepL] at hr ⊢
    obtain ⟨v, vs', rfl, ⟨r1, r2, r3⟩, r4⟩ := hr
    exact ⟨v, vs', rfl, ⟨RepV.nils x y _ h1 r1, h1.isAgg.trans r2, r3⟩, RepL.nils xs ys _ h2 r4⟩
theorem RepE.nils {w : World} {hw : Hw} {k : Nat} : ∀ (l l' : List AV) (vs : List Value), LeqDL l l' → RepE w hw k l vs → RepE w hw k l' vs
  | [], _, _, h, hr => by simp only [LeqDL] at h; subst h; exact hr
  | x :: xs, _, _, h, hr => by
    simp only [LeqDL] at h
    obtain ⟨y, ys, rfl, h1, h2⟩ := h
    simp only [RepE] at hr ⊢
    obtain ⟨r0, ⟨r1, r2⟩, r3⟩ := hr
    exact ⟨r0, ⟨RepV.nils x y _ h1 r1, by rw [h1.isAgg]; exact r2⟩, RepE.nils xs ys _ h2 r3⟩
end

theorem RepT.nils {w : World} {hw : Hw} {bs : List Nat} {base : Nat} : ∀ (l l' : List AV) (vs : List Value), LeqDL l l' → RepT w hw bs base l vs → RepT w hw bs base l' vs
  | [], _, _, h, hr => by simp only [LeqDL] at h; subst h; exact hr
  | x :: xs, _, _, h, hr => by
    simp only [LeqDL] at h
    obtain ⟨y, ys, rfl, h1, h2⟩ := h
    simp only [RepT] at hr ⊢
    obtain ⟨v, vs', rfl, r1, r2⟩ := hr
    refine ⟨v, vs', rfl, ?_, RepT.nils xs ys _ h2 r2⟩
    rcases r1 with rfl | ⟨r1, r3⟩
    · simp only [LeqD] at h1; exact .inl h1.symm
    · exact .inr ⟨RepV.nils x y _ h1 r1, by rw [r3, h1.isAgg]⟩

mutual
theorem LeqD.refl : ∀ x : AV, LeqD x x
  | .v z => by
    unfold LeqD
    split
    · rename_i e; cases e; exact .inl rfl
    · rename_i e; cases e
    · rename_i e; cases e
    · rename_i e; cases e
    · rfl
  | .agg l => by simp only [LeqD]; exact ⟨l, rfl, LeqDL.refl l⟩
  | .sl k l => by simp only [LeqD]; exact ⟨l, rfl, LeqDL.refl l⟩
  | .tup l => by simp only [LeqD]; exact ⟨l, rfl, LeqDL.refl l⟩
  | .top | .bp _ _ | .xp _ _ | .mo _ | .mx _ | .bs .. | .xs .. | .gv _ _ | .ep _ | .fn .. | .ifc _ _ => by simp only [LeqD]
theorem LeqDL.refl : ∀ l : List AV, LeqDL l l
  | [] => by simp only [LeqDL]
  | x :: xs => by simp only [LeqDL]; exact ⟨x, xs, rfl, LeqD.refl x, LeqDL.refl xs⟩
end
theorem LeqDL.append : ∀ {a a' b b' : List AV}, LeqDL a a' → LeqDL b b' → LeqDL (a ++ b) (a' ++ b')
  | [], _, _, _, h, k => by simp only [LeqDL] at h; subst h; exact k
  | x :: xs, _, _, _, h, k => by
    simp only [LeqDL] at h
    obtain ⟨y, ys, rfl, h1, h2⟩ := h
    simp only [List.cons_append, LeqDL]
    exact ⟨y, _, rfl, h1, h2.append k⟩
theorem LeqDL.map {α : Type} {f g : α → AV} (h : ∀ x, LeqD (f x) (g x)) : ∀ l : List α, LeqDL (l.map f) (l.map g)
  | [] => by simp only [List.map_nil, LeqDL]
  | x :: l => by simp only [List.map_cons, LeqDL]; exact ⟨_, _, rfl, h x, LeqDL.map h l⟩
theorem LeqD.nil {k : Nat} (h : 0 < k) : LeqD (.v (.slice none 0 0)) (.sl k []) := by
  unfold LeqD; exact .inr ⟨k, h, rfl⟩
theorem LeqD.agg {l l' : List AV} (h : LeqDL l l') : LeqD (.agg l) (.agg l') := by unfold LeqD; exact ⟨l', rfl, h⟩
theorem LeqD.tup {l l' : List AV} (h : LeqDL l l') : LeqD (.tup l) (.tup l') := by unfold LeqD; exact ⟨l', rfl, h⟩
theorem LeqD.sl {k : Nat} {l l' : List AV} (h : LeqDL l l') : LeqD (.sl k l) (.sl k l') := by unfold LeqD; exact ⟨l', rfl, h⟩
theorem LeqDL.cons {x y : AV} {l l' : List AV} (h : LeqD x y) (k : LeqDL l l') : LeqDL (x :: l) (y :: l') := by unfold LeqDL; exact ⟨y, l', rfl, h, k⟩
theorem Rep.nils {w : World} {hw : Hw} {bs : List Nat} {base : Nat} {x y : AV} {v : Value} (h : LeqD x y) (hr : Rep w hw bs base x v) : Rep w hw bs base y v := by
  cases x with
  | tup l =>
    unfold LeqD at h
    obtain ⟨l', rfl, h⟩ := h
    obtain ⟨vs, e, hr⟩ := hr
    exact ⟨vs, e, RepT.nils _ _ _ h hr⟩
  | _ =>
    rcases hr with hr | ⟨r1, r2⟩
    · first
        | cases hr; done
        | (unfold LeqD at h; subst h; exact .inl rfl)
    · refine rep_of (.inr ⟨RepV.nils _ _ _ h r1, by rw [r2, h.isAgg]⟩)
attribute [irreducible] LeqD LeqDL

/-- A contract of a function at an empty slice holds at nil. -/
theorem XPure.nils {P : Program} {f : FuncId} {args args' : List AV} {r : AV} {ow : Bool} (h : XPure P f args' r ow)
    (hn : LeqDL args args' := by repeat' (first | exact LeqD.refl _ | exact LeqDL.refl _ | assumption | exact LeqD.nil (by decide) | refine LeqDL.cons ?_ ?_ | refine LeqD.agg ?_ | refine LeqD.tup ?_ | refine LeqD.sl ?_)) : XPure P f args r ow :=
  ⟨h.1, h.2.1, fun env w g vs G hs hv => h.2.2 env w g vs G hs (RepT.nils _ _ _ hn hv)⟩

/-- At the end: what comes back, where nil may be said to be empty. -/
def OutN (P : Program) (n : Nat) (rs : List ResultVar) (env : List Bx) (r : AV) (e : Exit) (c : Cfg) : Prop :=
  (e = .normal ∨ e = .ret) ∧ c.env = env ∧ retA P n rs c fun r' _ => LeqD r' r

theorem XPure.bodyN {P : Program} {f : FuncId} {fn : Func} {cd : Code} {args : List AV} {r : AV} (hc : Callable P f) (hf : P.funcs[f]? = some fn) (hb : fn.body = some cd) (ha : args.length ≤ fn.ntmps) (hp : r.pf = true)
    (h : ∀ env, codeA P fn.ntmps cd (OutN P fn.ntmps fn.results.toList env r) ⟨frOf 0 args, [], [], env⟩) : XPure P f args r false := by
  refine ⟨hc, hp, fun env => ?_⟩
  have h1 := XCalls.intro (R := fun r' ow' env' => LeqD r' r ∧ env' = env) hf hb ha ((codeA_sound _ _ _ (h env)).mono fun e c' q => by
    obtain ⟨q1, q2, q3⟩ := q
    refine ⟨q1, by rw [q2], ?_⟩
    have e : (fun (r' : AV) (ow' : Bool) => (LeqD r' r ∧ c'.env = env)) = (fun r' _ => LeqD r' r) := by
      funext r' ow'; simp [q2]
    rw [e]; exact q3)
  intro w g vs G hs hv
  refine (h1 w g vs G hs hv).mono ?_
  rintro e w' ⟨u, g', r', ow', env', k1, ⟨k2, rfl⟩, k3, k4, k5, k6, k7⟩
  exact ⟨u, g', r, false, env', k1, ⟨rfl, rfl, rfl⟩, k3, k4, k5, Rep.nils k2 k6, fun h => by cases h⟩
theorem getD_mapI {α : Type} {f : α → AV} {l : List α} {n : Nat} (d : α) (h : n < l.length) : (l.map f).getD (Int.toNat (n : Int)) .top = f (l.getD n d) := getD_map d h
end Go.Ev
end
section
/- Written by this session: short words for the steps of a proof. Conditions: none beyond those in each statement. -/
namespace Go.Ev
open Go

theorem okG {P : Prop} (h : P := by first | exact fun h => h | exact fun _ => rfl | exact notF | exact andL | exact andR | exact fun h' => andI (by assumption) h' | exact fun h' => andN (by assumption) h') : P := h
theorem okS {P : Prop} (h : P := by first | (refine sizeOk rfl ?_; simp only [List.length_map, List.length_append, List.length_take, List.length_drop, List.length_cons, List.length_nil]; omega) | omega | (simp only [List.length_map, List.length_append, List.length_take, List.length_drop, List.length_cons, List.length_nil]; omega)) : P := h
theorem okN {P : Prop} (h : P := by (repeat' (first | exact LeqD.refl _ | exact LeqDL.refl _ | assumption | exact LeqD.nil (by decide) | refine LeqDL.cons ?_ ?_ | refine LeqD.agg ?_ | refine LeqD.tup ?_ | refine LeqD.sl ?_)); first | done | fail) : P := h
theorem cY {b : Bool} {A B : Prop} (k : A) (h : b = true := by with_reducible first | rfl | assumption) : (b = true → A) ∧ (b = false → B) := cTrue h k
theorem cN {b : Bool} {A B : Prop} (k : B) (h : b = false := by with_reducible first | rfl | assumption) : (b = true → A) ∧ (b = false → B) := cFalse h k
theorem gA {b w : Bool} {A B : Prop} (k : A) (h : b = w := by with_reducible first | rfl | assumption) : (b = w → A) ∧ (b ≠ w → B) := gY h k
theorem gB {b : Bool} {A B : Prop} (k : B) (h : b = true := by with_reducible first | rfl | assumption) : (b = false → A) ∧ (b ≠ false → B) := gTF h k
theorem gC {b : Bool} {A B : Prop} (k : B) (h : b = false := by with_reducible first | rfl | assumption) : (b = true → A) ∧ (b ≠ true → B) := gFT h k
theorem pfA {x : AV} {B : Prop} (k : B) (h : pf1 x = true := by exact rfl) : AV.pf x = true ∧ B := ⟨pf_of1 h, k⟩
theorem XW.dr {P : Program} {n : Nat} {ops : Array Oper} {id m : Nat} {c : Cfg} {Q : Exit → Cfg → Prop} (h : drawA P n ops.toList m c fun c' => Q .normal c') (hmix : P.follows .mixedOrders = true := by kernel_rfl) (hB : drawB ops.toList m = true := by kernel_rfl) (hm : Nat.ble m ops.toList.length = true := by rfl) : XW P n (.region id ops true) Q c := XW.draw hmix hB hm h
end Go.Ev
end
