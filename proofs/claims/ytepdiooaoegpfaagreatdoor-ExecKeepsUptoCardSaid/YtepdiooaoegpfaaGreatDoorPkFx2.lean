/- Written by programs of this session: laws and contracts that the law's proof stands on, merged into one text. Conditions: none beyond those in each statement. -/
import Derived.Test.YtepdiooaoegpfaaGreatDoorPkFx1
section
/- Where files stand; scripted failures. Conditions: those in each statement. -/
namespace Go.Proofs.YtepdiooaoegpfaaGreatDoor.Fx
open Go Go.Proofs Go.Ev Go.RowKit
set_option maxRecDepth 100000
set_option maxHeartbeats 1600000
set_option linter.unusedSimpArgs false
set_option linter.unusedVariables false
def findF (l : List File) (s : ByteArray) : Option File := match l with
  | [] => none
  | f :: r => if beqS f.name s then some f else findF r s
theorem findF_step {l : List File} {s : ByteArray} {i : Nat} (h : i < l.length) : findF (l.drop i) s = if beqS (l.getD i File.none).name s then some (l.getD i File.none) else findF (l.drop (i + 1)) s := by
  rw [drop_getD File.none h]; rfl
theorem findF_end {l : List File} {s : ByteArray} {i : Nat} (h : ¬ i < l.length) : findF (l.drop i) s = none := by
  rw [List.drop_eq_nil_of_le (by omega)]; rfl
abbrev eOF (o : Option File) : AV := .tup [eF (o.getD File.none), bln o.isSome]
theorem c_ref13_File {clock : Int} {l : List File} {s : ByteArray} (hl : l.length ≤ 1000000000) : XPure Tryz.prog 15 [eD clock l, str s] (eOF (findF l s)) false := by
  refine XPure.body ⟨_, Tryz.func15, rfl, by kernel_rfl⟩ Tryz.func15 rfl (Nat.le_of_ble_eq_true (by rfl)) (pf_of1 rfl) fun env => ?_
  repeat' ((conv => whnf); (fail_if_success (with_reducible show ∃ _, _ ∧ _ ∧ Weak _ _ _)); first | ((with_reducible show guardA _ _ _ _ _ _ ∨ _); first | (refine .inr ?_; (conv => whnf); refine ⟨_, ?_, fun h => rfl, rfl, ?_⟩; ((conv => whnf); first | exact trivial | (refine ⟨?_, trivial⟩; exact okG))) | (refine .inr ?_; (conv => whnf); refine ⟨_, trivial, fun h => ⟨?_, ?_, ?_, rfl⟩, rfl, ?_⟩; (first | exact h | rfl); exact okG; exact okG) | refine .inl ?_) | refine cY ?_ | refine cN ?_ | refine gA ?_ | refine gB ?_ | refine gC ?_ | ((first | refine gsT (fun h => ?_) (fun h => ?_) | refine gsF (fun h => ?_) (fun h => ?_) | refine ⟨fun h => ?_, fun h => ?_⟩) <;> (have hs := h; try simp only [cs, reduceCtorEq, Int.reduceEq, Int.reduceNe, Int.reduceLT, Int.reduceLE, Int.reduceBEq, Int.reduceBNe] at hs)) | ((with_reducible show _ ∧ _ ∧ Weak _ _ _); refine ⟨?_, ?_, Weak.go⟩; (omega)) | ((with_reducible show (_ ∧ _ ∧ _) ∧ _); refine ⟨⟨by kernel_rfl, by kernel_rfl, by rfl⟩, ?_⟩) | ((with_reducible show AV.pf _ = true ∧ _); refine pfA ?_) | (refine ⟨rfl, ?_, ?_, ?_⟩; exact okG; exact okG) | ((with_reducible show (_ ∨ _) ∧ _ ∧ retA _ _ _ _ _); refine ⟨?_, rfl, ?_⟩; (first | exact .inr rfl | exact .inl rfl)) | ((with_reducible show _ = _ ∧ _ = false ∧ _ = _); refine ⟨?_, rfl, rfl⟩; try (first | rfl | (conv => lhs; whnf))) | ((with_reducible show LeqD _ _); try (first | exact okN | (first | rfl | (conv => lhs; whnf))); done) | ((with_reducible show _ = _ ∧ (_ → _)); refine ⟨?_, ?_⟩; try (first | rfl | (conv => lhs; whnf))) | exact fun h => h | exact fun _ => rfl | refine ⟨rfl, ?_⟩ | (refine ⟨Nat.le_of_ble_eq_true rfl, ?_⟩) | (refine ⟨?_, ?_, ?_⟩; exact okS; exact okS) | (refine ⟨?_, ?_⟩; exact okS) | rw [wrapId (by omega) (by omega)] | fail)
  refine XW.countL l.length [1, 4, 9, 10] (fun i => [(11, i64 i)]) (fun _ => []) (fun i => [.cells [i64 clock, eFs l] [], .cells (eF File.none).leaves []]) (fun i => findF l s = findF (l.drop i) s) Weak.go rfl ?_
  intro i hi hA
  refine codeS ?_
  repeat' ((conv => whnf); (fail_if_success (with_reducible show ∃ _, _ ∧ _ ∧ Weak _ _ _)); first | ((with_reducible show guardA _ _ _ _ _ _ ∨ _); first | (refine .inr ?_; (conv => whnf); refine ⟨_, ?_, fun h => rfl, rfl, ?_⟩; ((conv => whnf); first | exact trivial | (refine ⟨?_, trivial⟩; exact okG))) | (refine .inr ?_; (conv => whnf); refine ⟨_, trivial, fun h => ⟨?_, ?_, ?_, rfl⟩, rfl, ?_⟩; (first | exact h | rfl); exact okG; exact okG) | refine .inl ?_) | refine cY ?_ | refine cN ?_ | refine gA ?_ | refine gB ?_ | refine gC ?_ | ((first | refine gsT (fun h => ?_) (fun h => ?_) | refine gsF (fun h => ?_) (fun h => ?_) | refine ⟨fun h => ?_, fun h => ?_⟩) <;> (have hs := h; try simp only [cs, reduceCtorEq, Int.reduceEq, Int.reduceNe, Int.reduceLT, Int.reduceLE, Int.reduceBEq, Int.reduceBNe] at hs)) | ((with_reducible show _ ∧ _ ∧ Weak _ _ _); refine ⟨?_, ?_, Weak.go⟩; (omega)) | ((with_reducible show (_ ∧ _ ∧ _) ∧ _); refine ⟨⟨by kernel_rfl, by kernel_rfl, by rfl⟩, ?_⟩) | ((with_reducible show AV.pf _ = true ∧ _); refine pfA ?_) | (refine ⟨rfl, ?_, ?_, ?_⟩; exact okG; exact okG) | ((with_reducible show (_ ∨ _) ∧ _ ∧ retA _ _ _ _ _); refine ⟨?_, rfl, ?_⟩; (first | exact .inr rfl | exact .inl rfl)) | ((with_reducible show _ = _ ∧ _ = false ∧ _ = _); refine ⟨?_, rfl, rfl⟩; try (first | rfl | (conv => lhs; whnf))) | ((with_reducible show LeqD _ _); try (first | exact okN | (first | rfl | (conv => lhs; whnf))); done) | ((with_reducible show _ = _ ∧ (_ → _)); refine ⟨?_, ?_⟩; try (first | rfl | (conv => lhs; whnf))) | exact fun h => h | exact fun _ => rfl | refine ⟨rfl, ?_⟩ | (refine ⟨Nat.le_of_ble_eq_true rfl, ?_⟩) | (refine ⟨?_, ?_, ?_⟩; exact okS; exact okS) | (refine ⟨?_, ?_⟩; exact okS) | rw [getD_mapI (File.none) (by omega)] | rw [getD_map (File.none) (by omega)] | rw [wrapId (by omega) (by omega)] | fail)
  · rw [hA, findF_step ‹_›, if_pos (beqS_iff.2 hs)]; rfl
  · rw [hA, findF_step ‹_›, if_neg (by simpa using h)]
  · rw [hA, findF_end hs]; rfl
def posF (l : List File) (s : ByteArray) : Nat := match l with
  | [] => 0
  | f :: r => if ltS f.name s then posF r s + 1 else 0
def thereF (l : List File) (s : ByteArray) : Bool := match l[posF l s]? with
  | some f => beqS f.name s
  | none => false
theorem posF_eq : ∀ {l : List File} {s : ByteArray} {i : Nat}, i ≤ l.length → (∀ k, k < i → ltS (l.getD k File.none).name s = true) → (i < l.length → ltS (l.getD i File.none).name s = false) → posF l s = i
  | [], _, i, h, _, _ => by simp at h; simp [posF, h]
  | f :: r, s, 0, _, _, h2 => by
    have := h2 (by simp)
    simp at this
    simp [posF, this]
  | f :: r, s, i + 1, h, h1, h2 => by
    have := h1 0 (by omega)
    simp at this
    simp only [posF, this, if_true]
    rw [posF_eq (i := i) (by simpa using h) (fun k hk => by simpa using h1 (k + 1) (by omega)) (fun hk => by simpa using h2 (by simpa using hk))]
theorem sorted_of {clock : Int} : ∀ {l : List File} {p : Option ByteArray}, chkF clock p l = true → (∀ q, p = some q → ∀ f ∈ l, ltS q f.name = true) ∧ l.Pairwise fun a b => ltS a.name b.name = true
  | [], _, _ => ⟨fun _ _ _ h => by simp at h, .nil⟩
  | f :: r, p, h => by
    simp only [chkF, Bool.and_eq_true] at h
    obtain ⟨ih1, ih2⟩ := sorted_of h.2
    refine ⟨?_, List.pairwise_cons.2 ⟨fun b hb => ih1 _ rfl b hb, ih2⟩⟩
    rintro q rfl g hg
    have h0 : ltS q f.name = true := h.1.2
    rcases List.mem_cons.1 hg with rfl | hg
    · exact h0
    · exact ltS_trans h0 (ih1 _ rfl g hg)
theorem okD_sorted {clock : Int} {l : List File} (h : okD clock l = true) : l.length ≤ 256 ∧ l.Pairwise fun a b => ltS a.name b.name = true := by
  simp only [okD, Bool.and_eq_true, decide_eq_true_eq] at h
  exact ⟨h.1.2, (sorted_of h.2).2⟩
theorem halfW {i j : Nat} (h : i + j < 4611686018427387904) : IntKind.i64.wrap ((IntKind.u64.wrap ((i : Int) + (j : Int))).fdiv (2 ^ Int.toNat 1)) = (((i + j) / 2 : Nat) : Int) := by
  have e : IntKind.u64.wrap ((i : Int) + (j : Int)) = ((i + j : Nat) : Int) := by
    simp only [IntKind.wrap, IntKind.bits, IntKind.signed]; simp; omega
  rw [e]
  have e2 : ((i + j : Nat) : Int).fdiv (2 ^ Int.toNat 1) = (((i + j) / 2 : Nat) : Int) := by
    show ((i + j : Nat) : Int).fdiv ((2 : Nat) : Int) = _
    rw [Int.ofNat_fdiv]
  rw [e2, wrapId (by omega) (by omega)]
theorem halfW2 {i j : Nat} (h : i + j < 4611686018427387904) : IntKind.i64.wrap ((IntKind.u64.wrap (IntKind.i64.wrap ((i : Int) + (j : Int)))).fdiv (2 ^ Int.toNat 1)) = (((i + j) / 2 : Nat) : Int) := by
  rw [show IntKind.i64.wrap ((i : Int) + (j : Int)) = (i : Int) + (j : Int) from wrapId (by omega) (by omega)]; exact halfW h
theorem cmp3_lt {a b : Bool} : decide ((if a = true then (-1 : Int) else if b = true then 1 else 0) < 0) = a := by cases a <;> cases b <;> rfl
theorem pw_at {l : List File} (hp : l.Pairwise fun a b => ltS a.name b.name = true) {a b : Nat} (h : a < b) (hb : b < l.length) : ltS (l.getD a File.none).name (l.getD b File.none).name = true := by
  have := List.pairwise_iff_getElem.1 hp a b (by omega) hb h
  simpa [List.getD_eq_getElem?_getD, hb, (by omega : a < l.length)] using this
theorem thereF_eq {l : List File} {s : ByteArray} {i : Nat} (h : posF l s = i) (hi : i < l.length) : thereF l s = beqS (l.getD i File.none).name s := by
  unfold thereF; rw [h, List.getElem?_eq_getElem hi]; simp [List.getD_eq_getElem?_getD, hi]
theorem thereF_end {l : List File} {s : ByteArray} {i : Nat} (h : posF l s = i) (hi : ¬ i < l.length) : thereF l s = false := by
  unfold thereF; rw [h, List.getElem?_eq_none (by omega)]
theorem cmp3_eq {a s : ByteArray} : ((if ltS a s = true then (-1 : Int) else if ltS s a = true then 1 else 0) == 0) = beqS a s := by
  cases h : ltS a s with
  | true =>
    have : beqS a s = false := beqS_no.2 fun e => by subst e; rw [ltS_irrefl] at h; cases h
    rw [this]; rfl
  | false =>
    cases k : ltS s a with
    | true =>
      have : beqS a s = false := beqS_no.2 fun e => by subst e; rw [ltS_irrefl] at k; cases k
      rw [this]; rfl
    | false => rw [beqS_iff.2 (ltS_total h k)]; rfl
theorem c_BinarySearch {l : List File} {s : ByteArray} (hl : l.length ≤ 256) (hp : l.Pairwise fun a b => ltS a.name b.name = true) : XPure Tryz.prog 96 [eFs l, str s, .fn (.func 97) [] []] (.tup [i64 (posF l s), bln (thereF l s)]) false := by
  refine XPure.body ⟨_, Tryz.func96, rfl, by kernel_rfl⟩ Tryz.func96 rfl (Nat.le_of_ble_eq_true (by rfl)) (pf_of1 rfl) fun env => ?_
  repeat' ((conv => whnf); (fail_if_success (with_reducible show ∃ _, _ ∧ _ ∧ Weak _ _ _)); first | ((with_reducible show guardA _ _ _ _ _ _ ∨ _); first | (refine .inr ?_; (conv => whnf); refine ⟨_, ?_, fun h => rfl, rfl, ?_⟩; ((conv => whnf); first | exact trivial | (refine ⟨?_, trivial⟩; exact okG))) | (refine .inr ?_; (conv => whnf); refine ⟨_, trivial, fun h => ⟨?_, ?_, ?_, rfl⟩, rfl, ?_⟩; (first | exact h | rfl); exact okG; exact okG) | refine .inl ?_) | refine cY ?_ | refine cN ?_ | refine gA ?_ | refine gB ?_ | refine gC ?_ | ((first | refine gsT (fun h => ?_) (fun h => ?_) | refine gsF (fun h => ?_) (fun h => ?_) | refine ⟨fun h => ?_, fun h => ?_⟩) <;> (have hs := h; try simp only [cs, reduceCtorEq, Int.reduceEq, Int.reduceNe, Int.reduceLT, Int.reduceLE, Int.reduceBEq, Int.reduceBNe] at hs)) | ((with_reducible show _ ∧ _ ∧ Weak _ _ _); refine ⟨?_, ?_, Weak.go⟩; (omega)) | ((with_reducible show (_ ∧ _ ∧ _) ∧ _); refine ⟨⟨by kernel_rfl, by kernel_rfl, by rfl⟩, ?_⟩) | ((with_reducible show AV.pf _ = true ∧ _); refine pfA ?_) | (refine ⟨rfl, ?_, ?_, ?_⟩; exact okG; exact okG) | ((with_reducible show (_ ∨ _) ∧ _ ∧ retA _ _ _ _ _); refine ⟨?_, rfl, ?_⟩; (first | exact .inr rfl | exact .inl rfl)) | ((with_reducible show _ = _ ∧ _ = false ∧ _ = _); refine ⟨?_, rfl, rfl⟩; try (first | rfl | (conv => lhs; whnf))) | ((with_reducible show LeqD _ _); try (first | exact okN | (first | rfl | (conv => lhs; whnf))); done) | ((with_reducible show _ = _ ∧ (_ → _)); refine ⟨?_, ?_⟩; try (first | rfl | (conv => lhs; whnf))) | exact fun h => h | exact fun _ => rfl | refine ⟨rfl, ?_⟩ | (refine ⟨Nat.le_of_ble_eq_true rfl, ?_⟩) | (refine ⟨?_, ?_, ?_⟩; exact okS; exact okS) | (refine ⟨?_, ?_⟩; exact okS) | rw [wrapId (by omega) (by omega)] | fail)
  refine XW.overL [0, 1, 2, 6, 7, 8] (fun (p : Nat × Nat) => [(9, i64 p.1), (10, i64 p.2)]) (fun _ => []) (fun _ => []) (fun p => p.1 ≤ p.2 ∧ p.2 ≤ l.length ∧ (∀ k, k < p.1 → ltS (l.getD k File.none).name s = true) ∧ (∀ k, p.2 ≤ k → k < l.length → ltS (l.getD k File.none).name s = false)) (fun p => p.2 - p.1) (0, l.length) Weak.go ⟨Nat.zero_le _, Nat.le_refl _, fun k hk => by omega, fun k h1 h2 => by omega⟩ ?_
  rintro ⟨i, j⟩ ⟨h1, h2, h3, h4⟩
  dsimp only at h1 h2 h3 h4 ⊢
  refine codeS ?_
  repeat' ((conv => whnf); (fail_if_success (with_reducible show ∃ _, _ ∧ _ ∧ Weak _ _ _)); first | ((with_reducible show guardA _ _ _ _ _ _ ∨ _); first | (refine .inr ?_; (conv => whnf); refine ⟨_, ?_, fun h => rfl, rfl, ?_⟩; ((conv => whnf); first | exact trivial | (refine ⟨?_, trivial⟩; exact okG))) | (refine .inr ?_; (conv => whnf); refine ⟨_, trivial, fun h => ⟨?_, ?_, ?_, rfl⟩, rfl, ?_⟩; (first | exact h | rfl); exact okG; exact okG) | refine .inl ?_) | refine cY ?_ | refine cN ?_ | refine gA ?_ | refine gB ?_ | refine gC ?_ | ((first | refine gsT (fun h => ?_) (fun h => ?_) | refine gsF (fun h => ?_) (fun h => ?_) | refine ⟨fun h => ?_, fun h => ?_⟩) <;> (have hs := h; try simp only [cs, reduceCtorEq, Int.reduceEq, Int.reduceNe, Int.reduceLT, Int.reduceLE, Int.reduceBEq, Int.reduceBNe] at hs)) | (refine .inl ⟨_, _, c_place_1, ?_⟩) | ((with_reducible show _ ∧ _ ∧ Weak _ _ _); refine ⟨?_, ?_, Weak.go⟩; (omega)) | (first | rw [halfW (by omega)] | rw [halfW2 (by omega)]) | ((with_reducible show (_ ∧ _ ∧ _) ∧ _); refine ⟨⟨by kernel_rfl, by kernel_rfl, by rfl⟩, ?_⟩) | ((with_reducible show AV.pf _ = true ∧ _); refine pfA ?_) | (refine ⟨rfl, ?_, ?_, ?_⟩; exact okG; exact okG) | ((with_reducible show (_ ∨ _) ∧ _ ∧ retA _ _ _ _ _); refine ⟨?_, rfl, ?_⟩; (first | exact .inr rfl | exact .inl rfl)) | ((with_reducible show _ = _ ∧ _ = false ∧ _ = _); refine ⟨?_, rfl, rfl⟩; try (first | rfl | (conv => lhs; whnf))) | ((with_reducible show LeqD _ _); try (first | exact okN | (first | rfl | (conv => lhs; whnf))); done) | ((with_reducible show _ = _ ∧ (_ → _)); refine ⟨?_, ?_⟩; try (first | rfl | (conv => lhs; whnf))) | exact fun h => h | exact fun _ => rfl | refine ⟨rfl, ?_⟩ | (refine ⟨Nat.le_of_ble_eq_true rfl, ?_⟩) | (refine ⟨?_, ?_, ?_⟩; exact okS; exact okS) | (refine ⟨?_, ?_⟩; exact okS) | rw [getD_mapI (File.none) (by omega)] | rw [getD_map (File.none) (by omega)] | rw [wrapId (by omega) (by omega)] | fail)
  · have hlt : ltS (l.getD ((i + j) / 2) File.none).name s = true := cmp3_lt.symm.trans h
    refine ⟨((i + j) / 2 + 1, j), by dsimp only; omega, ⟨by dsimp only; omega, h2, fun k hk => ?_, h4⟩, Weak.go⟩
    rcases Nat.lt_or_ge k ((i + j) / 2) with q | q
    · exact ltS_trans (pw_at hp q (by omega)) hlt
    · obtain rfl : k = (i + j) / 2 := by dsimp only at hk; omega
      exact hlt
  · have hge : ltS (l.getD ((i + j) / 2) File.none).name s = false := cmp3_lt.symm.trans h
    conv => whnf
    refine ⟨(i, (i + j) / 2), by dsimp only; omega, ⟨by dsimp only; omega, by dsimp only; omega, h3, fun k hk hkl => ?_⟩, Weak.go⟩
    rcases Nat.lt_or_ge ((i + j) / 2) k with q | q
    · cases hc : ltS (l.getD k File.none).name s with
      | false => rfl
      | true => rw [ltS_trans (pw_at hp q hkl) hc] at hge; cases hge
    · obtain rfl : k = (i + j) / 2 := by dsimp only at hk; omega
      exact hge
  · have hp' := posF_eq (l := l) (s := s) (i := i) (by omega) h3 (fun _ => h4 i (by omega) (by omega))
    rw [hp', thereF_eq hp' hs]
    have e : ∀ b : Bool, (bif decide ((i : Int) < ((l.map eF).length : Int)) then b else false) = b := fun b => by rw [h]; rfl
    exact congrArg (fun b => AV.tup [i64 i, bln b]) ((e _).trans cmp3_eq)
  · have hp' := posF_eq (l := l) (s := s) (i := i) (by omega) h3 (fun _ => h4 i (by omega) (by omega))
    rw [hp', thereF_end hp' hs]; rfl
theorem c_disk_place {clock : Int} {l : List File} {s : ByteArray} (hl : l.length ≤ 256) (hp : l.Pairwise fun a b => ltS a.name b.name = true) : XPure Tryz.prog 73 [eD clock l, str s] (.tup [i64 (posF l s), bln (thereF l s)]) false := by
  refine XPure.body ⟨_, Tryz.func73, rfl, by kernel_rfl⟩ Tryz.func73 rfl (Nat.le_of_ble_eq_true (by rfl)) (pf_of1 rfl) fun env => ?_
  repeat' ((conv => whnf); (fail_if_success (with_reducible show ∃ _, _ ∧ _ ∧ Weak _ _ _)); first | ((with_reducible show guardA _ _ _ _ _ _ ∨ _); first | (refine .inr ?_; (conv => whnf); refine ⟨_, ?_, fun h => rfl, rfl, ?_⟩; ((conv => whnf); first | exact trivial | (refine ⟨?_, trivial⟩; exact okG))) | (refine .inr ?_; (conv => whnf); refine ⟨_, trivial, fun h => ⟨?_, ?_, ?_, rfl⟩, rfl, ?_⟩; (first | exact h | rfl); exact okG; exact okG) | refine .inl ?_) | refine cY ?_ | refine cN ?_ | refine gA ?_ | refine gB ?_ | refine gC ?_ | ((first | refine gsT (fun h => ?_) (fun h => ?_) | refine gsF (fun h => ?_) (fun h => ?_) | refine ⟨fun h => ?_, fun h => ?_⟩) <;> (have hs := h; try simp only [cs, reduceCtorEq, Int.reduceEq, Int.reduceNe, Int.reduceLT, Int.reduceLE, Int.reduceBEq, Int.reduceBNe] at hs)) | (refine .inl ⟨_, _, c_BinarySearch hl hp, ?_⟩) | ((with_reducible show _ ∧ _ ∧ Weak _ _ _); refine ⟨?_, ?_, Weak.go⟩; (omega)) | ((with_reducible show (_ ∧ _ ∧ _) ∧ _); refine ⟨⟨by kernel_rfl, by kernel_rfl, by rfl⟩, ?_⟩) | ((with_reducible show AV.pf _ = true ∧ _); refine pfA ?_) | (refine ⟨rfl, ?_, ?_, ?_⟩; exact okG; exact okG) | ((with_reducible show (_ ∨ _) ∧ _ ∧ retA _ _ _ _ _); refine ⟨?_, rfl, ?_⟩; (first | exact .inr rfl | exact .inl rfl)) | ((with_reducible show _ = _ ∧ _ = false ∧ _ = _); refine ⟨?_, rfl, rfl⟩; try (first | rfl | (conv => lhs; whnf))) | ((with_reducible show LeqD _ _); try (first | exact okN | (first | rfl | (conv => lhs; whnf))); done) | ((with_reducible show _ = _ ∧ (_ → _)); refine ⟨?_, ?_⟩; try (first | rfl | (conv => lhs; whnf))) | exact fun h => h | exact fun _ => rfl | refine ⟨rfl, ?_⟩ | (refine ⟨Nat.le_of_ble_eq_true rfl, ?_⟩) | (refine ⟨?_, ?_, ?_⟩; exact okS; exact okS) | (refine ⟨?_, ?_⟩; exact okS) | rw [wrapId (by omega) (by omega)] | fail)
theorem c_disk_asked {clock : Int} {l : List File} {s : ByteArray} : XPure Tryz.prog 71 [eD clock l, str s] (i64 (bif okD clock l then errIf (isName s) 3 else 4)) false := by
  refine XPure.body ⟨_, Tryz.func71, rfl, by kernel_rfl⟩ Tryz.func71 rfl (Nat.le_of_ble_eq_true (by rfl)) (pf_of1 rfl) fun env => ?_
  repeat' ((conv => whnf); (fail_if_success (with_reducible show ∃ _, _ ∧ _ ∧ Weak _ _ _)); first | ((with_reducible show guardA _ _ _ _ _ _ ∨ _); first | (refine .inr ?_; (conv => whnf); refine ⟨_, ?_, fun h => rfl, rfl, ?_⟩; ((conv => whnf); first | exact trivial | (refine ⟨?_, trivial⟩; exact okG))) | (refine .inr ?_; (conv => whnf); refine ⟨_, trivial, fun h => ⟨?_, ?_, ?_, rfl⟩, rfl, ?_⟩; (first | exact h | rfl); exact okG; exact okG) | refine .inl ?_) | refine cY ?_ | refine cN ?_ | refine gA ?_ | refine gB ?_ | refine gC ?_ | ((first | refine gsT (fun h => ?_) (fun h => ?_) | refine gsF (fun h => ?_) (fun h => ?_) | refine ⟨fun h => ?_, fun h => ?_⟩) <;> (have hs := h; try simp only [cs, reduceCtorEq, Int.reduceEq, Int.reduceNe, Int.reduceLT, Int.reduceLE, Int.reduceBEq, Int.reduceBNe] at hs)) | (refine .inl ⟨_, _, c_disk_Check, ?_⟩) | (refine .inl ⟨_, _, c_disk_named, ?_⟩) | ((with_reducible show _ ∧ _ ∧ Weak _ _ _); refine ⟨?_, ?_, Weak.go⟩; (omega)) | ((with_reducible show (_ ∧ _ ∧ _) ∧ _); refine ⟨⟨by kernel_rfl, by kernel_rfl, by rfl⟩, ?_⟩) | ((with_reducible show AV.pf _ = true ∧ _); refine pfA ?_) | (refine ⟨rfl, ?_, ?_, ?_⟩; exact okG; exact okG) | ((with_reducible show (_ ∨ _) ∧ _ ∧ retA _ _ _ _ _); refine ⟨?_, rfl, ?_⟩; (first | exact .inr rfl | exact .inl rfl)) | ((with_reducible show _ = _ ∧ _ = false ∧ _ = _); refine ⟨?_, rfl, rfl⟩; try (first | rfl | (conv => lhs; whnf))) | ((with_reducible show LeqD _ _); try (first | exact okN | (first | rfl | (conv => lhs; whnf))); done) | ((with_reducible show _ = _ ∧ (_ → _)); refine ⟨?_, ?_⟩; try (first | rfl | (conv => lhs; whnf))) | exact fun h => h | exact fun _ => rfl | refine ⟨rfl, ?_⟩ | (refine ⟨Nat.le_of_ble_eq_true rfl, ?_⟩) | (refine ⟨?_, ?_, ?_⟩; exact okS; exact okS) | (refine ⟨?_, ?_⟩; exact okS) | rw [wrapId (by omega) (by omega)] | fail)
  all_goals cases h1 : okD clock l <;> cases h2 : isName s <;> simp_all [errIf]
theorem asked0 {clock : Int} {l : List File} {s : ByteArray} (h : (bif okD clock l then errIf (isName s) 3 else 4) = 0) : okD clock l = true ∧ isName s = true := by
  cases h1 : okD clock l <;> cases h2 : isName s <;> simp_all [errIf]
theorem posF_le : ∀ {l : List File} {s : ByteArray}, posF l s ≤ l.length
  | [], _ => Nat.le_refl _
  | f :: r, s => by
    simp only [posF, List.length_cons]
    split
    · have := @posF_le r s; omega
    · omega
theorem posF_lt {l : List File} {s : ByteArray} (h : thereF l s = true) : posF l s < l.length := by
  unfold thereF at h
  split at h
  · rename_i f hf; exact (List.getElem?_eq_some_iff.1 hf).1
  · cases h
theorem findF_sorted : ∀ {l : List File} {s : ByteArray}, (l.Pairwise fun a b => ltS a.name b.name = true) → findF l s = if thereF l s then some (l.getD (posF l s) File.none) else none
  | [], _, _ => rfl
  | f :: r, s, hp => by
    obtain ⟨h1, h2⟩ := List.pairwise_cons.1 hp
    simp only [findF]
    cases hlt : ltS f.name s with
    | true =>
      have : beqS f.name s = false := beqS_no.2 fun e => by rw [e, ltS_irrefl] at hlt; cases hlt
      have e1 : posF (f :: r) s = posF r s + 1 := by simp [posF, hlt]
      have e2 : thereF (f :: r) s = thereF r s := by unfold thereF; rw [e1]; rfl
      rw [this, if_neg (by simp), findF_sorted h2, e2, e1]; rfl
    | false =>
      have e1 : posF (f :: r) s = 0 := by simp [posF, hlt]
      have e2 : thereF (f :: r) s = beqS f.name s := by unfold thereF; rw [e1]; rfl
      rw [e2, e1]
      cases hb : beqS f.name s with
      | true => rfl
      | false =>
        simp only [Bool.false_eq_true, if_false]
        have hgt : ltS s f.name = true := by
          cases h : ltS s f.name with
          | true => rfl
          | false => rw [beqS_iff.2 (ltS_total hlt h)] at hb; cases hb
        have : ∀ (q : List File), (∀ g ∈ q, ltS f.name g.name = true) → findF q s = none := by
          intro q
          induction q with
          | nil => intro _; rfl
          | cons g q ih =>
            intro hq
            have hg := ltS_trans hgt (hq g (by simp))
            have : beqS g.name s = false := beqS_no.2 fun e => by rw [e, ltS_irrefl] at hg; cases hg
            simp only [findF, this, Bool.false_eq_true, if_false]
            exact ih fun x hx => hq x (by simp [hx])
        exact this r h1
/-- A file that is asked for, or what is wrong. -/
def findD (clock : Int) (l : List File) (s : ByteArray) : Option File := bif okD clock l && isName s then findF l s else none
def findE (clock : Int) (l : List File) (s : ByteArray) : Int := bif okD clock l then bif isName s then errIf (findF l s).isSome 21 else 3 else 4
theorem find_ok {clock : Int} {l : List File} {s : ByteArray} (h : (bif okD clock l then errIf (isName s) 3 else 4) = 0) : findD clock l s = (if thereF l s then some (l.getD (posF l s) File.none) else none) ∧ findE clock l s = errIf (thereF l s) 21 := by
  obtain ⟨h1, h2⟩ := asked0 h
  unfold findD findE
  rw [h1, h2, findF_sorted (okD_sorted h1).2]
  cases thereF l s <;> exact ⟨rfl, rfl⟩
theorem find_bad {clock : Int} {l : List File} {s : ByteArray} (h : ¬ (bif okD clock l then errIf (isName s) 3 else 4) = 0) : findD clock l s = none ∧ findE clock l s = bif okD clock l then errIf (isName s) 3 else 4 := by
  unfold findD findE
  cases h1 : okD clock l <;> cases h2 : isName s <;> simp_all [errIf]
theorem c_disk_Find {clock : Int} {l : List File} {s : ByteArray} : XPure Tryz.prog 52 [eD clock l, str s] (.tup [eF ((findD clock l s).getD File.none), i64 (findE clock l s)]) false := by
  refine XPure.body ⟨_, Tryz.func52, rfl, by kernel_rfl⟩ Tryz.func52 rfl (Nat.le_of_ble_eq_true (by rfl)) (pf_of1 rfl) fun env => ?_
  repeat' ((conv => whnf); (fail_if_success (with_reducible show ∃ _, _ ∧ _ ∧ Weak _ _ _)); first | ((with_reducible show guardA _ _ _ _ _ _ ∨ _); first | (refine .inr ?_; (conv => whnf); refine ⟨_, ?_, fun h => rfl, rfl, ?_⟩; ((conv => whnf); first | exact trivial | (refine ⟨?_, trivial⟩; exact okG))) | (refine .inr ?_; (conv => whnf); refine ⟨_, trivial, fun h => ⟨?_, ?_, ?_, rfl⟩, rfl, ?_⟩; (first | exact h | rfl); exact okG; exact okG) | refine .inl ?_) | refine cY ?_ | refine cN ?_ | refine gA ?_ | refine gB ?_ | refine gC ?_ | ((first | refine gsT (fun h => ?_) (fun h => ?_) | refine gsF (fun h => ?_) (fun h => ?_) | refine ⟨fun h => ?_, fun h => ?_⟩) <;> (have hs := h; try simp only [cs, reduceCtorEq, Int.reduceEq, Int.reduceNe, Int.reduceLT, Int.reduceLE, Int.reduceBEq, Int.reduceBNe] at hs)) | (refine .inl ⟨_, _, c_disk_asked, ?_⟩) | (refine .inl ⟨_, _, c_disk_place (okD_sorted (asked0 (by assumption)).1).1 (okD_sorted (asked0 (by assumption)).1).2, ?_⟩) | ((with_reducible show _ ∧ _ ∧ Weak _ _ _); refine ⟨?_, ?_, Weak.go⟩; (omega)) | (rw [getD_mapI File.none (posF_lt (by assumption))]) | ((with_reducible show (_ ∧ _ ∧ _) ∧ _); refine ⟨⟨by kernel_rfl, by kernel_rfl, by rfl⟩, ?_⟩) | ((with_reducible show AV.pf _ = true ∧ _); refine pfA ?_) | (refine ⟨rfl, ?_, ?_, ?_⟩; exact okG; exact okG) | ((with_reducible show (_ ∨ _) ∧ _ ∧ retA _ _ _ _ _); refine ⟨?_, rfl, ?_⟩; (first | exact .inr rfl | exact .inl rfl)) | ((with_reducible show _ = _ ∧ _ = false ∧ _ = _); refine ⟨?_, rfl, rfl⟩; try (first | rfl | (conv => lhs; whnf))) | ((with_reducible show LeqD _ _); try (first | exact okN | (first | rfl | (conv => lhs; whnf))); done) | ((with_reducible show _ = _ ∧ (_ → _)); refine ⟨?_, ?_⟩; try (first | rfl | (conv => lhs; whnf))) | exact fun h => h | exact fun _ => rfl | refine ⟨rfl, ?_⟩ | (refine ⟨Nat.le_of_ble_eq_true rfl, ?_⟩) | (refine ⟨?_, ?_, ?_⟩; (first | omega | (have := posF_lt (by assumption); simp only [List.length_map]; omega)); (first | omega | (have := posF_lt (by assumption); simp only [List.length_map]; omega))) | (refine ⟨?_, ?_⟩; (first | omega | (have := posF_lt (by assumption); simp only [List.length_map]; omega))) | rw [wrapId (by omega) (by omega)] | fail)
  · obtain ⟨e1, e2⟩ := find_bad hs
    rw [e1, e2]; rfl
  · obtain ⟨e1, e2⟩ := find_ok (by assumption)
    rw [e1, e2, hs]; rfl
  · obtain ⟨e1, e2⟩ := find_ok (by assumption)
    rw [e1, e2, hs]; rfl
def Fail.none : Fail := ⟨.empty, 0, 0⟩
end Go.Proofs.YtepdiooaoegpfaaGreatDoor.Fx
end
section
/- Names, nodes and plans. Conditions: those in each statement. -/
namespace Go.Proofs.YtepdiooaoegpfaaGreatDoor.Fx
open Go Go.Proofs Go.Ev Go.RowKit
set_option maxRecDepth 100000
set_option maxHeartbeats 1600000
set_option linter.unusedSimpArgs false
set_option linter.unusedVariables false
theorem c_names_letter {c : UInt8} : XPure Tryz.prog 106 [.v (.int .u8 c.toNat)] (bln (isLetter c.toNat)) false := by
  obtain ⟨f, hf, cI⟩ := x_IndexByte
  have key : isLetter c.toNat = (decide (c.toNat ≥ 65) && decide (c.toNat ≤ 90) || decide (c.toNat ≥ 97) && decide (c.toNat ≤ 122) || decide (c.toNat ≥ 48) && decide (c.toNat ≤ 57) || decide (f ⟨#[95, 45, 46, 47, 43]⟩ c.toNat ≥ 0)) := by
    rw [hf]; exact letterIB _ (UInt8.toNat_lt _)
  refine XPure.body ⟨_, Tryz.func106, rfl, by kernel_rfl⟩ Tryz.func106 rfl (Nat.le_of_ble_eq_true (by rfl)) (pf_of1 rfl) fun env => ?_
  repeat' ((conv => whnf); (fail_if_success (with_reducible show ∃ _, _ ∧ _ ∧ Weak _ _ _)); first | ((with_reducible show guardA _ _ _ _ _ _ ∨ _); first | (refine .inr ?_; (conv => whnf); refine ⟨_, ?_, fun h => rfl, rfl, ?_⟩; ((conv => whnf); first | exact trivial | (refine ⟨?_, trivial⟩; exact okG))) | (refine .inr ?_; (conv => whnf); refine ⟨_, trivial, fun h => ⟨?_, ?_, ?_, rfl⟩, rfl, ?_⟩; (first | exact h | rfl); exact okG; exact okG) | refine .inl ?_) | refine cY ?_ | refine cN ?_ | refine gA ?_ | refine gB ?_ | refine gC ?_ | ((first | refine gsT (fun h => ?_) (fun h => ?_) | refine gsF (fun h => ?_) (fun h => ?_) | refine ⟨fun h => ?_, fun h => ?_⟩) <;> (have hs := h; try simp only [cs, reduceCtorEq, Int.reduceEq, Int.reduceNe, Int.reduceLT, Int.reduceLE, Int.reduceBEq, Int.reduceBNe] at hs)) | (refine .inl ⟨_, _, cI _ _, ?_⟩) | ((with_reducible show _ ∧ _ ∧ Weak _ _ _); refine ⟨?_, ?_, Weak.go⟩; (omega)) | ((with_reducible show (_ ∧ _ ∧ _) ∧ _); refine ⟨⟨by kernel_rfl, by kernel_rfl, by rfl⟩, ?_⟩) | ((with_reducible show AV.pf _ = true ∧ _); refine pfA ?_) | (refine ⟨rfl, ?_, ?_, ?_⟩; exact okG; exact okG) | ((with_reducible show (_ ∨ _) ∧ _ ∧ retA _ _ _ _ _); refine ⟨?_, rfl, ?_⟩; (first | exact .inr rfl | exact .inl rfl)) | ((with_reducible show _ = _ ∧ _ = false ∧ _ = _); refine ⟨?_, rfl, rfl⟩; try (first | rfl | (conv => lhs; whnf))) | ((with_reducible show LeqD _ _); try (first | exact okN | (first | rfl | (conv => lhs; whnf))); done) | ((with_reducible show _ = _ ∧ (_ → _)); refine ⟨?_, ?_⟩; try (first | rfl | (conv => lhs; whnf))) | exact fun h => h | exact fun _ => rfl | refine ⟨rfl, ?_⟩ | (refine ⟨Nat.le_of_ble_eq_true rfl, ?_⟩) | (refine ⟨?_, ?_, ?_⟩; exact okS; exact okS) | (refine ⟨?_, ?_⟩; exact okS) | rw [wrapId (by omega) (by omega)] | fail)
  · exact congrArg (fun b => bln b) (by rw [Bool.eq_iff_iff, key]; simp only [cs, reduceCtorEq, Int.reduceEq, Int.reduceNe, Int.reduceLT, Int.reduceLE, Int.reduceBEq, Int.reduceBNe]; omega)
  · exact congrArg (fun b => bln b) (by rw [key, eq_comm]; simp only [cs, reduceCtorEq, Int.reduceEq, Int.reduceNe, Int.reduceLT, Int.reduceLE, Int.reduceBEq, Int.reduceBNe]; omega)
theorem c_names_Check {s : ByteArray} (hz : s.size ≤ 140737488355328) : XPure Tryz.prog 80 [str s] (i64 (errIf (isName s) 3)) false := by
  refine XPure.body ⟨_, Tryz.func80, rfl, by kernel_rfl⟩ Tryz.func80 rfl (Nat.le_of_ble_eq_true (by rfl)) (pf_of1 rfl) fun env => ?_
  repeat' ((conv => whnf); (fail_if_success (with_reducible show ∃ _, _ ∧ _ ∧ Weak _ _ _)); first | ((with_reducible show guardA _ _ _ _ _ _ ∨ _); first | (refine .inr ?_; (conv => whnf); refine ⟨_, ?_, fun h => rfl, rfl, ?_⟩; ((conv => whnf); first | exact trivial | (refine ⟨?_, trivial⟩; exact okG))) | (refine .inr ?_; (conv => whnf); refine ⟨_, trivial, fun h => ⟨?_, ?_, ?_, rfl⟩, rfl, ?_⟩; (first | exact h | rfl); exact okG; exact okG) | refine .inl ?_) | refine cY ?_ | refine cN ?_ | refine gA ?_ | refine gB ?_ | refine gC ?_ | ((first | refine gsT (fun h => ?_) (fun h => ?_) | refine gsF (fun h => ?_) (fun h => ?_) | refine ⟨fun h => ?_, fun h => ?_⟩) <;> (have hs := h; try simp only [cs, reduceCtorEq, Int.reduceEq, Int.reduceNe, Int.reduceLT, Int.reduceLE, Int.reduceBEq, Int.reduceBNe] at hs)) | ((with_reducible show _ ∧ _ ∧ Weak _ _ _); refine ⟨?_, ?_, Weak.go⟩; (omega)) | ((with_reducible show (_ ∧ _ ∧ _) ∧ _); refine ⟨⟨by kernel_rfl, by kernel_rfl, by rfl⟩, ?_⟩) | ((with_reducible show AV.pf _ = true ∧ _); refine pfA ?_) | (refine ⟨rfl, ?_, ?_, ?_⟩; exact okG; exact okG) | ((with_reducible show (_ ∨ _) ∧ _ ∧ retA _ _ _ _ _); refine ⟨?_, rfl, ?_⟩; (first | exact .inr rfl | exact .inl rfl)) | ((with_reducible show _ = _ ∧ _ = false ∧ _ = _); refine ⟨?_, rfl, rfl⟩; try (first | rfl | (conv => lhs; whnf))) | ((with_reducible show LeqD _ _); try (first | exact okN | (first | rfl | (conv => lhs; whnf))); done) | ((with_reducible show _ = _ ∧ (_ → _)); refine ⟨?_, ?_⟩; try (first | rfl | (conv => lhs; whnf))) | exact fun h => h | exact fun _ => rfl | refine ⟨rfl, ?_⟩ | (refine ⟨Nat.le_of_ble_eq_true rfl, ?_⟩) | (refine ⟨?_, ?_, ?_⟩; exact okS; exact okS) | (refine ⟨?_, ?_⟩; exact okS) | rw [wrapId (by omega) (by omega)] | fail)
  · rw [isName_bad (by omega)]; rfl
  · refine XW.countL s.size [0, 13] (fun i => [(14, i64 i)]) (fun _ => []) (fun _ => []) (fun i => isName s = (s.data.toList.drop i).all fun c => isLetter c.toNat) Weak.go (isName_good (by omega)) ?_
    intro i hi hA
    refine codeS ?_
    repeat' ((conv => whnf); (fail_if_success (with_reducible show ∃ _, _ ∧ _ ∧ Weak _ _ _)); first | ((with_reducible show guardA _ _ _ _ _ _ ∨ _); first | (refine .inr ?_; (conv => whnf); refine ⟨_, ?_, fun h => rfl, rfl, ?_⟩; ((conv => whnf); first | exact trivial | (refine ⟨?_, trivial⟩; exact okG))) | (refine .inr ?_; (conv => whnf); refine ⟨_, trivial, fun h => ⟨?_, ?_, ?_, rfl⟩, rfl, ?_⟩; (first | exact h | rfl); exact okG; exact okG) | refine .inl ?_) | refine cY ?_ | refine cN ?_ | refine gA ?_ | refine gB ?_ | refine gC ?_ | ((first | refine gsT (fun h => ?_) (fun h => ?_) | refine gsF (fun h => ?_) (fun h => ?_) | refine ⟨fun h => ?_, fun h => ?_⟩) <;> (have hs := h; try simp only [cs, reduceCtorEq, Int.reduceEq, Int.reduceNe, Int.reduceLT, Int.reduceLE, Int.reduceBEq, Int.reduceBNe] at hs)) | (refine .inl ⟨_, _, c_names_letter, ?_⟩) | ((with_reducible show _ ∧ _ ∧ Weak _ _ _); refine ⟨?_, ?_, Weak.go⟩; (omega)) | ((with_reducible show (_ ∧ _ ∧ _) ∧ _); refine ⟨⟨by kernel_rfl, by kernel_rfl, by rfl⟩, ?_⟩) | ((with_reducible show AV.pf _ = true ∧ _); refine pfA ?_) | (refine ⟨rfl, ?_, ?_, ?_⟩; exact okG; exact okG) | ((with_reducible show (_ ∨ _) ∧ _ ∧ retA _ _ _ _ _); refine ⟨?_, rfl, ?_⟩; (first | exact .inr rfl | exact .inl rfl)) | ((with_reducible show _ = _ ∧ _ = false ∧ _ = _); refine ⟨?_, rfl, rfl⟩; try (first | rfl | (conv => lhs; whnf))) | ((with_reducible show LeqD _ _); try (first | exact okN | (first | rfl | (conv => lhs; whnf))); done) | ((with_reducible show _ = _ ∧ (_ → _)); refine ⟨?_, ?_⟩; try (first | rfl | (conv => lhs; whnf))) | exact fun h => h | exact fun _ => rfl | refine ⟨rfl, ?_⟩ | (refine ⟨Nat.le_of_ble_eq_true rfl, ?_⟩) | (refine ⟨?_, ?_, ?_⟩; exact okS; exact okS) | (refine ⟨?_, ?_⟩; exact okS) | rw [wrapId (by omega) (by omega)] | fail)
    · rw [hA, all_no ‹_› hs]; rfl
    · exact hA.trans (all_yes ‹_› hs)
    · rw [hA, all_end hs]; rfl
def findP (p : ByteArray → Bool) (l : List ByteArray) (i : Nat) : Int := match l with
  | [] => -1
  | x :: r => if p x then i else findP p r (i + 1)
theorem findP_eq {p : ByteArray → Bool} {l : List ByteArray} {i : Nat} (h : i < l.length) : findP p (l.drop i) i = if p (l.getD i .empty) then (i : Int) else findP p (l.drop (i + 1)) (i + 1) := by
  rw [drop_getD .empty h]; rfl
theorem findP_end {p : ByteArray → Bool} {l : List ByteArray} {i : Nat} (h : ¬ i < l.length) : findP p (l.drop i) i = -1 := by
  rw [List.drop_eq_nil_of_le (by omega)]; rfl
theorem findP_any {p : ByteArray → Bool} {l : List ByteArray} : ∀ i : Nat, decide (findP p l i ≥ 0) = l.any p := by
  induction l with
  | nil => intro i; rfl
  | cons x r ih =>
    intro i
    show decide ((if p x then (i : Int) else findP p r (i + 1)) ≥ 0) = (p x || r.any p)
    cases p x with
    | true => simp
    | false => simpa using ih (i + 1)
theorem c_IndexFunc {g : Nat} {p : ByteArray → Bool} {l : List ByteArray} (hg : ∀ {s : ByteArray}, XPure Tryz.prog g [str s] (bln (p s)) false) (hl : l.length ≤ 1000000000) : XPure Tryz.prog 107 [eS l, .fn (.func g) [] []] (i64 (findP p l 0)) false := by
  refine XPure.body ⟨_, Tryz.func107, rfl, by kernel_rfl⟩ Tryz.func107 rfl (Nat.le_of_ble_eq_true (by rfl)) (pf_of1 rfl) fun env => ?_
  repeat' ((conv => whnf); (fail_if_success (with_reducible show ∃ _, _ ∧ _ ∧ Weak _ _ _)); first | ((with_reducible show guardA _ _ _ _ _ _ ∨ _); first | (refine .inr ?_; (conv => whnf); refine ⟨_, ?_, fun h => rfl, rfl, ?_⟩; ((conv => whnf); first | exact trivial | (refine ⟨?_, trivial⟩; exact okG))) | (refine .inr ?_; (conv => whnf); refine ⟨_, trivial, fun h => ⟨?_, ?_, ?_, rfl⟩, rfl, ?_⟩; (first | exact h | rfl); exact okG; exact okG) | refine .inl ?_) | refine cY ?_ | refine cN ?_ | refine gA ?_ | refine gB ?_ | refine gC ?_ | ((first | refine gsT (fun h => ?_) (fun h => ?_) | refine gsF (fun h => ?_) (fun h => ?_) | refine ⟨fun h => ?_, fun h => ?_⟩) <;> (have hs := h; try simp only [cs, reduceCtorEq, Int.reduceEq, Int.reduceNe, Int.reduceLT, Int.reduceLE, Int.reduceBEq, Int.reduceBNe] at hs)) | ((with_reducible show _ ∧ _ ∧ Weak _ _ _); refine ⟨?_, ?_, Weak.go⟩; (omega)) | ((with_reducible show (_ ∧ _ ∧ _) ∧ _); refine ⟨⟨by kernel_rfl, by kernel_rfl, by rfl⟩, ?_⟩) | ((with_reducible show AV.pf _ = true ∧ _); refine pfA ?_) | (refine ⟨rfl, ?_, ?_, ?_⟩; exact okG; exact okG) | ((with_reducible show (_ ∨ _) ∧ _ ∧ retA _ _ _ _ _); refine ⟨?_, rfl, ?_⟩; (first | exact .inr rfl | exact .inl rfl)) | ((with_reducible show _ = _ ∧ _ = false ∧ _ = _); refine ⟨?_, rfl, rfl⟩; try (first | rfl | (conv => lhs; whnf))) | ((with_reducible show LeqD _ _); try (first | exact okN | (first | rfl | (conv => lhs; whnf))); done) | ((with_reducible show _ = _ ∧ (_ → _)); refine ⟨?_, ?_⟩; try (first | rfl | (conv => lhs; whnf))) | exact fun h => h | exact fun _ => rfl | refine ⟨rfl, ?_⟩ | (refine ⟨Nat.le_of_ble_eq_true rfl, ?_⟩) | (refine ⟨?_, ?_, ?_⟩; exact okS; exact okS) | (refine ⟨?_, ?_⟩; exact okS) | rw [wrapId (by omega) (by omega)] | fail)
  refine XW.countL l.length [0, 1, 7] (fun i => [(8, i64 i)]) (fun _ => []) (fun _ => []) (fun i => findP p l 0 = findP p (l.drop i) i) Weak.go rfl ?_
  intro i hi hA
  refine codeS ?_
  repeat' ((conv => whnf); (fail_if_success (with_reducible show ∃ _, _ ∧ _ ∧ Weak _ _ _)); first | ((with_reducible show guardA _ _ _ _ _ _ ∨ _); first | (refine .inr ?_; (conv => whnf); refine ⟨_, ?_, fun h => rfl, rfl, ?_⟩; ((conv => whnf); first | exact trivial | (refine ⟨?_, trivial⟩; exact okG))) | (refine .inr ?_; (conv => whnf); refine ⟨_, trivial, fun h => ⟨?_, ?_, ?_, rfl⟩, rfl, ?_⟩; (first | exact h | rfl); exact okG; exact okG) | refine .inl ?_) | refine cY ?_ | refine cN ?_ | refine gA ?_ | refine gB ?_ | refine gC ?_ | ((first | refine gsT (fun h => ?_) (fun h => ?_) | refine gsF (fun h => ?_) (fun h => ?_) | refine ⟨fun h => ?_, fun h => ?_⟩) <;> (have hs := h; try simp only [cs, reduceCtorEq, Int.reduceEq, Int.reduceNe, Int.reduceLT, Int.reduceLE, Int.reduceBEq, Int.reduceBNe] at hs)) | (refine .inl ⟨_, _, hg, ?_⟩) | ((with_reducible show _ ∧ _ ∧ Weak _ _ _); refine ⟨?_, ?_, Weak.go⟩; (omega)) | ((with_reducible show (_ ∧ _ ∧ _) ∧ _); refine ⟨⟨by kernel_rfl, by kernel_rfl, by rfl⟩, ?_⟩) | ((with_reducible show AV.pf _ = true ∧ _); refine pfA ?_) | (refine ⟨rfl, ?_, ?_, ?_⟩; exact okG; exact okG) | ((with_reducible show (_ ∨ _) ∧ _ ∧ retA _ _ _ _ _); refine ⟨?_, rfl, ?_⟩; (first | exact .inr rfl | exact .inl rfl)) | ((with_reducible show _ = _ ∧ _ = false ∧ _ = _); refine ⟨?_, rfl, rfl⟩; try (first | rfl | (conv => lhs; whnf))) | ((with_reducible show LeqD _ _); try (first | exact okN | (first | rfl | (conv => lhs; whnf))); done) | ((with_reducible show _ = _ ∧ (_ → _)); refine ⟨?_, ?_⟩; try (first | rfl | (conv => lhs; whnf))) | exact fun h => h | exact fun _ => rfl | refine ⟨rfl, ?_⟩ | (refine ⟨Nat.le_of_ble_eq_true rfl, ?_⟩) | (refine ⟨?_, ?_, ?_⟩; exact okS; exact okS) | (refine ⟨?_, ?_⟩; exact okS) | rw [getD_mapI (ByteArray.empty) (by omega)] | rw [getD_map (ByteArray.empty) (by omega)] | rw [wrapId (by omega) (by omega)] | fail)
  · rw [hA, findP_eq ‹_›, if_pos hs]
  · rw [hA, findP_eq ‹_›, if_neg (by rw [hs]; simp)]
  · rw [hA, findP_end hs]
theorem c_ContainsFunc {g : Nat} {p : ByteArray → Bool} {l : List ByteArray} (hg : ∀ {s : ByteArray}, XPure Tryz.prog g [str s] (bln (p s)) false) (hl : l.length ≤ 1000000000) : XPure Tryz.prog 81 [eS l, .fn (.func g) [] []] (bln (l.any p)) false := by
  refine XPure.body ⟨_, Tryz.func81, rfl, by kernel_rfl⟩ Tryz.func81 rfl (Nat.le_of_ble_eq_true (by rfl)) (pf_of1 rfl) fun env => ?_
  repeat' ((conv => whnf); (fail_if_success (with_reducible show ∃ _, _ ∧ _ ∧ Weak _ _ _)); first | ((with_reducible show guardA _ _ _ _ _ _ ∨ _); first | (refine .inr ?_; (conv => whnf); refine ⟨_, ?_, fun h => rfl, rfl, ?_⟩; ((conv => whnf); first | exact trivial | (refine ⟨?_, trivial⟩; exact okG))) | (refine .inr ?_; (conv => whnf); refine ⟨_, trivial, fun h => ⟨?_, ?_, ?_, rfl⟩, rfl, ?_⟩; (first | exact h | rfl); exact okG; exact okG) | refine .inl ?_) | refine cY ?_ | refine cN ?_ | refine gA ?_ | refine gB ?_ | refine gC ?_ | ((first | refine gsT (fun h => ?_) (fun h => ?_) | refine gsF (fun h => ?_) (fun h => ?_) | refine ⟨fun h => ?_, fun h => ?_⟩) <;> (have hs := h; try simp only [cs, reduceCtorEq, Int.reduceEq, Int.reduceNe, Int.reduceLT, Int.reduceLE, Int.reduceBEq, Int.reduceBNe] at hs)) | (refine .inl ⟨_, _, c_IndexFunc hg hl, ?_⟩) | ((with_reducible show _ ∧ _ ∧ Weak _ _ _); refine ⟨?_, ?_, Weak.go⟩; (omega)) | ((with_reducible show (_ ∧ _ ∧ _) ∧ _); refine ⟨⟨by kernel_rfl, by kernel_rfl, by rfl⟩, ?_⟩) | ((with_reducible show AV.pf _ = true ∧ _); refine pfA ?_) | (refine ⟨rfl, ?_, ?_, ?_⟩; exact okG; exact okG) | ((with_reducible show (_ ∨ _) ∧ _ ∧ retA _ _ _ _ _); refine ⟨?_, rfl, ?_⟩; (first | exact .inr rfl | exact .inl rfl)) | ((with_reducible show _ = _ ∧ _ = false ∧ _ = _); refine ⟨?_, rfl, rfl⟩; try (first | rfl | (conv => lhs; whnf))) | ((with_reducible show LeqD _ _); try (first | exact okN | (first | rfl | (conv => lhs; whnf))); done) | ((with_reducible show _ = _ ∧ (_ → _)); refine ⟨?_, ?_⟩; try (first | rfl | (conv => lhs; whnf))) | exact fun h => h | exact fun _ => rfl | refine ⟨rfl, ?_⟩ | (refine ⟨Nat.le_of_ble_eq_true rfl, ?_⟩) | (refine ⟨?_, ?_, ?_⟩; exact okS; exact okS) | (refine ⟨?_, ?_⟩; exact okS) | rw [wrapId (by omega) (by omega)] | fail)
  rw [findP_any]

/-- What a node's parts are, but for what stands ahead of it. -/
def nodeIn (n : Node) : Bool :=
  isName n.target && decide (n.needs.length ≤ 65) && decide (n.recipe.length ≤ 64) && (n.has || decide (n.recipe.length = 0)) && !(n.recipe.any fun s => decide ((s.size : Int) > 65536)) &&
    (bif beqS n.source .empty then beqS n.stem .empty else decide (0 < n.needs.length) && beqS (n.needs.getD 0 .empty) n.source && decide (n.stem.size ≤ 64))
/-- Needs: names, all other ones, each of which p says. -/
def needsOk (p : ByteArray → Bool) (done : List ByteArray) : List ByteArray → Bool
  | [] => true
  | x :: r => isName x && !hasS done x && p x && needsOk p (done ++ [x]) r
theorem take_succD {l : List ByteArray} {i : Nat} (h : i < l.length) : l.take (i + 1) = l.take i ++ [l.getD i .empty] := by
  rw [List.take_succ_eq_append_getElem h]; simp [List.getD_eq_getElem?_getD, h]
theorem needsOk_step {p : ByteArray → Bool} {l : List ByteArray} {i : Nat} (h : i < l.length) : needsOk p (l.take i) (l.drop i) = (isName (l.getD i .empty) && !hasS (l.take i) (l.getD i .empty) && p (l.getD i .empty) && needsOk p (l.take (i + 1)) (l.drop (i + 1))) := by
  rw [drop_getD .empty h, take_succD h]; rfl
theorem needsOk_no {p : ByteArray → Bool} {l : List ByteArray} {i : Nat} (h : i < l.length) (h1 : isName (l.getD i .empty) = false ∨ hasS (l.take i) (l.getD i .empty) = true ∨ p (l.getD i .empty) = false) : needsOk p (l.take i) (l.drop i) = false := by
  rw [needsOk_step h]
  rcases h1 with h1 | h1 | h1 <;> rw [h1] <;> simp
theorem needsOk_yes {p : ByteArray → Bool} {l : List ByteArray} {i : Nat} (h : i < l.length) (h1 : isName (l.getD i .empty) = true) (h2 : hasS (l.take i) (l.getD i .empty) = false) (h3 : p (l.getD i .empty) = true) : needsOk p (l.take i) (l.drop i) = needsOk p (l.take (i + 1)) (l.drop (i + 1)) := by
  rw [needsOk_step h, h1, h2, h3]; rfl
theorem needsOk_end {p : ByteArray → Bool} {l : List ByteArray} {i : Nat} (h : ¬ i < l.length) : needsOk p (l.take i) (l.drop i) = true := by
  rw [List.drop_eq_nil_of_le (by omega)]; rfl
def nodeOk (n : Node) : Bool := nodeIn n && needsOk (fun x => !beqS x n.target) [] n.needs
theorem take_eS (l : List ByteArray) (n : Nat) : AV.sl 1 (((l.map fun x => .v (.string x)).take n).drop 0) = eS (l.take n) := by
  show AV.sl 1 (((l.map fun x => AV.v (.string x)).take n).drop 0) = AV.sl 1 ((l.take n).map _)
  rw [List.drop_zero, List.map_take]
theorem c_ContainsT {l : List ByteArray} {n : Nat} {s : ByteArray} (hl : l.length ≤ 1000000000) : XPure Tryz.prog 46 [.sl 1 (((l.map fun x => .v (.string x)).take n).drop 0), .v (.string s)] (.v (.bool (hasS (l.take n) s))) false := by
  rw [take_eS]; exact c_Contains (by rw [List.length_take]; omega)
def SzL (l : List ByteArray) : Prop := l.length ≤ 1000000000 ∧ ∀ x ∈ l, x.size ≤ 140737488355328
theorem SzL.at {l : List ByteArray} (h : SzL l) {i : Nat} (hi : i < l.length) : (l.getD i .empty).size ≤ 140737488355328 :=
  h.2 _ (by simp [List.getD_eq_getElem?_getD, hi])
structure SzN (n : Node) : Prop where
  target : n.target.size ≤ 140737488355328
  needs : SzL n.needs
  recipe : SzL n.recipe
theorem nodeIn_iff {n : Node} : nodeIn n = true ↔ isName n.target = true ∧ n.needs.length ≤ 65 ∧ n.recipe.length ≤ 64 ∧ (n.has = true ∨ n.recipe.length = 0) ∧ (n.recipe.any fun s => decide ((s.size : Int) > 65536)) = false ∧
    ((n.source = .empty ∧ n.stem = .empty) ∨ (n.source ≠ .empty ∧ 0 < n.needs.length ∧ n.needs.getD 0 .empty = n.source ∧ n.stem.size ≤ 64)) := by
  unfold nodeIn
  cases h : beqS n.source .empty with
  | true =>
    have := beqS_iff.1 h
    simp [beqS_iff, this, and_assoc]
  | false =>
    have := beqS_no.1 h
    simp [beqS_iff, this, and_assoc]
end Go.Proofs.YtepdiooaoegpfaaGreatDoor.Fx
end
section
/- Plans. Conditions: those in each statement. -/
namespace Go.Proofs.YtepdiooaoegpfaaGreatDoor.Fx
open Go Go.Proofs Go.Ev Go.RowKit
set_option maxRecDepth 100000
set_option maxHeartbeats 1600000
set_option linter.unusedSimpArgs false
set_option linter.unusedVariables false
def mOf (l : List ByteArray) : List (ByteArray × AV) := l.map fun s => (s, i64 1)
theorem getM_mOf : ∀ (l : List ByteArray) (s : ByteArray), getM (mOf l) s = if hasS l s then some (i64 1) else none
  | [], _ => rfl
  | x :: l, s => by
    show (if s = x then some (i64 1) else getM (mOf l) s) = if (beqS x s || hasS l s) = true then some (i64 1) else none
    by_cases h : s = x
    · rw [if_pos h, beqS_iff.2 h.symm]; rfl
    · rw [if_neg h, beqS_no.2 (fun e => h e.symm), Bool.false_or]; exact getM_mOf l s
theorem getM_some {l : List ByteArray} {s : ByteArray} {x : AV} (h : getM (mOf l) s = some x) : x = i64 1 ∧ hasS l s = true := by
  rw [getM_mOf] at h
  split at h
  · rename_i e; exact ⟨(Option.some.inj h).symm, e⟩
  · cases h
theorem getM_none {l : List ByteArray} {s : ByteArray} (h : getM (mOf l) s = none) : hasS l s = false := by
  rw [getM_mOf] at h
  split at h
  · cases h
  · rename_i e; simpa using e
theorem setM_mOf : ∀ (l : List ByteArray) (s : ByteArray), hasS l s = false → setM (mOf l) s (i64 1) = mOf (l ++ [s])
  | [], _, _ => rfl
  | x :: l, s, h => by
    have h' : beqS x s = false ∧ hasS l s = false := by simpa [hasS] using h
    show (if s = x then (s, i64 1) :: mOf l else (x, i64 1) :: setM (mOf l) s (i64 1)) = (x, i64 1) :: mOf (l ++ [s])
    rw [if_neg (fun e => beqS_no.1 h'.1 e.symm), setM_mOf l s h'.2]
def rightN (ahead : List ByteArray) (n : Node) : Bool := nodeIn n && !hasS ahead n.target && needsOk (hasS ahead) [] n.needs
theorem errIf_0 {b : Bool} : errIf b 3 = 0 ↔ b = true := by cases b <;> simp [errIf]
theorem rightN_last {ahead : List ByteArray} {n : Node} (h1 : isName n.target = true ∧ n.needs.length ≤ 65 ∧ n.recipe.length ≤ 64 ∧ (n.has = true ∨ n.recipe.length = 0)) (h2 : hasS ahead n.target = false) (h3 : needsOk (hasS ahead) [] n.needs = true) (h4 : (n.recipe.any fun s => decide ((s.size : Int) > 65536)) = false) :
    rightN ahead n = bif beqS n.source .empty then beqS n.stem .empty else decide (0 < n.needs.length) && beqS (n.needs.getD 0 .empty) n.source && decide (n.stem.size ≤ 64) := by
  obtain ⟨q1, q2, q3, q4⟩ := h1
  have e : (n.has || decide (n.recipe.length = 0)) = true := by rcases q4 with q | q <;> simp [q]
  unfold rightN nodeIn
  rw [q1, h2, h3, h4, e, decide_eq_true q2, decide_eq_true q3]
  simp
theorem rightN_any {ahead : List ByteArray} {n : Node} (h4 : (n.recipe.any fun s => decide ((s.size : Int) > 65536)) = true) : rightN ahead n = false := by
  unfold rightN nodeIn; rw [h4]; simp
theorem c_right {n : Node} {ahead : List ByteArray} {env : List Bx} {k : Nat} (he : env[k]? = some (.map (mOf ahead))) (hz : SzN n) :
    XCalls Tryz.prog 64 [eN n, .mx k] env fun r ow env' => r = bln (rightN ahead n) ∧ ow = false ∧ env' = env := by
  have hn1 := hz.needs.1
  have hn2 := hz.recipe.1
  have hE0 : ByteArray.empty.size = 0 := rfl
  have hkk : k < env.length := (List.getElem?_eq_some_iff.1 he).1
  refine XCalls.body Tryz.func64 rfl (Nat.le_of_ble_eq_true (by rfl)) ?_
  repeat' ((conv => whnf); first | ((with_reducible show (∀ _ : AV, _) ∧ _); refine ⟨fun x hx => ?_, fun hx => ?_⟩; (obtain ⟨rfl, hx⟩ := getM_some hx)) | ((with_reducible show guardA _ _ _ _ _ _ ∨ _); first | (refine .inr ?_; (conv => whnf); refine ⟨_, ?_, fun h => rfl, rfl, ?_⟩; ((conv => whnf); first | exact trivial | (refine ⟨?_, trivial⟩; exact okG))) | (refine .inr ?_; (conv => whnf); refine ⟨_, trivial, fun h => ⟨?_, ?_, ?_, rfl⟩, rfl, ?_⟩; (first | exact h | rfl); exact okG; exact okG) | refine .inl ?_) | refine cY ?_ | refine cN ?_ | refine gA ?_ | refine gB ?_ | refine gC ?_ | ((first | refine gsT (fun h => ?_) (fun h => ?_) | refine gsF (fun h => ?_) (fun h => ?_) | refine ⟨fun h => ?_, fun h => ?_⟩) <;> (have hs := h; try simp only [cs, reduceCtorEq, Int.reduceEq, Int.reduceNe, Int.reduceLT, Int.reduceLE, Int.reduceBEq, Int.reduceBNe] at hs)) | (refine .inl ⟨_, _, c_names_Check hz.target, ?_⟩) | ((with_reducible show _ ∧ _ ∧ Weak _ _ _); refine ⟨?_, ?_, Weak.go⟩; (omega)) | ((refine ⟨_, mapOf_mx he, ?_⟩)) | ((with_reducible show (_ ∧ _ ∧ _) ∧ _); refine ⟨⟨by kernel_rfl, by kernel_rfl, by rfl⟩, ?_⟩) | ((with_reducible show AV.pf _ = true ∧ _); refine pfA ?_) | (refine ⟨rfl, ?_, ?_, ?_⟩; exact okG; exact okG) | ((with_reducible show (_ ∨ _) ∧ _ ∧ retA _ _ _ _ _); refine ⟨?_, rfl, ?_⟩; (first | exact .inr rfl | exact .inl rfl)) | ((with_reducible show _ = _ ∧ _ = false ∧ _ = _); refine ⟨?_, rfl, rfl⟩; try (first | rfl | (conv => lhs; whnf))) | ((with_reducible show LeqD _ _); try (first | exact okN | (first | rfl | (conv => lhs; whnf))); done) | ((with_reducible show _ = _ ∧ (_ → _)); refine ⟨?_, ?_⟩; try (first | rfl | (conv => lhs; whnf))) | exact fun h => h | exact fun _ => rfl | refine ⟨rfl, ?_⟩ | (refine ⟨Nat.le_of_ble_eq_true rfl, ?_⟩) | (refine ⟨?_, ?_, ?_⟩; exact okS; exact okS) | (refine ⟨?_, ?_⟩; exact okS) | rw [wrapId (by omega) (by omega)] | fail)
  all_goals try (have e : rightN ahead n = false := by rw [← Bool.not_eq_true]; simp only [rightN, Bool.and_eq_true, nodeIn_iff, errIf_0, Bool.not_eq_true'] at *; grind)
  all_goals try (rw [e])
  all_goals replace hx := getM_none ‹_›
  all_goals have hF : isName n.target = true ∧ n.needs.length ≤ 65 ∧ n.recipe.length ≤ 64 ∧ (n.has = true ∨ n.recipe.length = 0) := by simp only [errIf_0, cs, reduceCtorEq, Int.reduceEq, Int.reduceNe, Int.reduceLT, Int.reduceLE, Int.reduceBEq, Int.reduceBNe] at *; grind
  all_goals clear h hs
  all_goals refine XW.countL n.needs.length [1, 2, 42, 43] (fun i => [(44, i64 i)]) (fun _ => []) (fun _ => [.cells (eN n).leaves []]) (fun i => needsOk (hasS ahead) [] n.needs = needsOk (hasS ahead) (n.needs.take i) (n.needs.drop i)) Weak.go rfl ?_
  all_goals
    intro i hi hA
    refine codeS ?_
    repeat' ((conv => whnf); first | ((with_reducible show (∀ _ : AV, _) ∧ _); refine ⟨fun x hx => ?_, fun hx => ?_⟩; (obtain ⟨rfl, hx⟩ := getM_some hx)) | ((with_reducible show guardA _ _ _ _ _ _ ∨ _); first | (refine .inr ?_; (conv => whnf); refine ⟨_, ?_, fun h => rfl, rfl, ?_⟩; ((conv => whnf); first | exact trivial | (refine ⟨?_, trivial⟩; exact okG))) | (refine .inr ?_; (conv => whnf); refine ⟨_, trivial, fun h => ⟨?_, ?_, ?_, rfl⟩, rfl, ?_⟩; (first | exact h | rfl); exact okG; exact okG) | refine .inl ?_) | refine cY ?_ | refine cN ?_ | refine gA ?_ | refine gB ?_ | refine gC ?_ | ((first | refine gsT (fun h => ?_) (fun h => ?_) | refine gsF (fun h => ?_) (fun h => ?_) | refine ⟨fun h => ?_, fun h => ?_⟩) <;> (have hs := h; try simp only [cs, reduceCtorEq, Int.reduceEq, Int.reduceNe, Int.reduceLT, Int.reduceLE, Int.reduceBEq, Int.reduceBNe] at hs)) | (refine .inl ⟨_, _, c_names_Check (hz.needs.at (by omega)), ?_⟩) | (refine .inl ⟨_, _, c_ContainsT hn1, ?_⟩) | ((with_reducible show _ ∧ _ ∧ Weak _ _ _); refine ⟨?_, ?_, Weak.go⟩; (omega)) | refine XW.dr (m := 20) ?_ | (refine ⟨_, _, c_names_Check (hz.needs.at (by omega)), ?_⟩) | (refine ⟨_, _, c_ContainsT hn1, ?_⟩) | ((refine ⟨_, mapOf_mx he, ?_⟩)) | ((with_reducible show (_ ∧ _ ∧ _) ∧ _); refine ⟨⟨by kernel_rfl, by kernel_rfl, by rfl⟩, ?_⟩) | ((with_reducible show AV.pf _ = true ∧ _); refine pfA ?_) | (refine ⟨rfl, ?_, ?_, ?_⟩; exact okG; exact okG) | ((with_reducible show (_ ∨ _) ∧ _ ∧ retA _ _ _ _ _); refine ⟨?_, rfl, ?_⟩; (first | exact .inr rfl | exact .inl rfl)) | ((with_reducible show _ = _ ∧ _ = false ∧ _ = _); refine ⟨?_, rfl, rfl⟩; try (first | rfl | (conv => lhs; whnf))) | ((with_reducible show LeqD _ _); try (first | exact okN | (first | rfl | (conv => lhs; whnf))); done) | ((with_reducible show _ = _ ∧ (_ → _)); refine ⟨?_, ?_⟩; try (first | rfl | (conv => lhs; whnf))) | exact fun h => h | exact fun _ => rfl | refine ⟨rfl, ?_⟩ | (refine ⟨Nat.le_of_ble_eq_true rfl, ?_⟩) | (refine ⟨?_, ?_, ?_⟩; exact okS; exact okS) | (refine ⟨?_, ?_⟩; exact okS) | rw [getD_mapI (ByteArray.empty) (by omega)] | rw [getD_map (ByteArray.empty) (by omega)] | rw [wrapId (by omega) (by omega)] | fail)
    all_goals try (have hi' : i < n.needs.length := by assumption)
    all_goals try simp only [cs, reduceCtorEq, Int.reduceEq, Int.reduceNe, Int.reduceLT, Int.reduceLE, Int.reduceBEq, Int.reduceBNe, errIf_0] at hs
    all_goals try (replace hx := getM_none ‹_›)
    all_goals try (have e : rightN ahead n = false := by unfold rightN; rw [hA, needsOk_no hi' (by simp only [cs, reduceCtorEq, Int.reduceEq, Int.reduceNe, Int.reduceLT, Int.reduceLE, Int.reduceBEq, Int.reduceBNe, errIf_0] at *; grind), Bool.and_false])
    all_goals try (rw [e])
    all_goals try exact hA.trans (needsOk_yes hi' (by grind) (by grind) (by grind))
    have hN : needsOk (hasS ahead) [] n.needs = true := by rw [hA, needsOk_end hs]
    repeat' ((conv => whnf); (fail_if_success (with_reducible show ∃ _, _ ∧ _ ∧ Weak _ _ _)); first | ((with_reducible show guardA _ _ _ _ _ _ ∨ _); first | (refine .inr ?_; (conv => whnf); refine ⟨_, ?_, fun h => rfl, rfl, ?_⟩; ((conv => whnf); first | exact trivial | (refine ⟨?_, trivial⟩; exact okG))) | (refine .inr ?_; (conv => whnf); refine ⟨_, trivial, fun h => ⟨?_, ?_, ?_, rfl⟩, rfl, ?_⟩; (first | exact h | rfl); exact okG; exact okG) | refine .inl ?_) | refine cY ?_ | refine cN ?_ | refine gA ?_ | refine gB ?_ | refine gC ?_ | ((first | refine gsT (fun h => ?_) (fun h => ?_) | refine gsF (fun h => ?_) (fun h => ?_) | refine ⟨fun h => ?_, fun h => ?_⟩) <;> (have hs := h; try simp only [cs, reduceCtorEq, Int.reduceEq, Int.reduceNe, Int.reduceLT, Int.reduceLE, Int.reduceBEq, Int.reduceBNe] at hs)) | (refine .inl ⟨_, _, c_ContainsFunc c_right_1 hn2, ?_⟩) | ((with_reducible show _ ∧ _ ∧ Weak _ _ _); refine ⟨?_, ?_, Weak.go⟩; (omega)) | refine XW.dr (m := 20) ?_ | (refine ⟨_, _, c_ContainsFunc c_right_1 hn2, ?_⟩) | ((with_reducible show (_ ∧ _ ∧ _) ∧ _); refine ⟨⟨by kernel_rfl, by kernel_rfl, by rfl⟩, ?_⟩) | ((with_reducible show AV.pf _ = true ∧ _); refine pfA ?_) | (refine ⟨rfl, ?_, ?_, ?_⟩; exact okG; exact okG) | ((with_reducible show (_ ∨ _) ∧ _ ∧ retA _ _ _ _ _); refine ⟨?_, rfl, ?_⟩; (first | exact .inr rfl | exact .inl rfl)) | ((with_reducible show _ = _ ∧ _ = false ∧ _ = _); refine ⟨?_, rfl, rfl⟩; try (first | rfl | (conv => lhs; whnf))) | ((with_reducible show LeqD _ _); try (first | exact okN | (first | rfl | (conv => lhs; whnf))); done) | ((with_reducible show _ = _ ∧ (_ → _)); refine ⟨?_, ?_⟩; try (first | rfl | (conv => lhs; whnf))) | exact fun h => h | exact fun _ => rfl | refine ⟨rfl, ?_⟩ | (refine ⟨Nat.le_of_ble_eq_true rfl, ?_⟩) | (refine ⟨?_, ?_, ?_⟩; exact okS; exact okS) | (refine ⟨?_, ?_⟩; exact okS) | rw [getD_mapI (ByteArray.empty) (by omega)] | rw [getD_map (ByteArray.empty) (by omega)] | rw [wrapId (by omega) (by omega)] | fail)
    · rw [rightN_any h]
    · rw [rightN_last hF hx hN ‹_›, show beqS n.source .empty = true from h, cond_true]; rfl
    all_goals rw [rightN_last hF hx hN ‹_›, show beqS n.source .empty = false from ‹_›, cond_false]
    all_goals clear hA he hkk
    all_goals refine congrArg (fun b => bln b) ?_
    all_goals rw [Bool.eq_iff_iff]
    all_goals simp only [cs, reduceCtorEq, Int.reduceEq, Int.reduceNe, Int.reduceLT, Int.reduceLE, Int.reduceBEq, Int.reduceBNe] at *
    all_goals grind
theorem rightN_target {ahead : List ByteArray} {n : Node} (h : rightN ahead n = true) : hasS ahead n.target = false := by
  simp only [rightN, Bool.and_eq_true, Bool.not_eq_true'] at h; exact h.1.2
def nodesOk (ahead : List ByteArray) : List Node → Bool
  | [] => true
  | n :: r => rightN ahead n && nodesOk (ahead ++ [n.target]) r
/-- The targets of nodes. -/
def targets (l : List Node) : List ByteArray := l.map Node.target
def goalsOk (all done : List ByteArray) : List ByteArray → Bool
  | [] => true
  | g :: r => hasS all g && !hasS done g && goalsOk all (done ++ [g]) r
def planOk (nodes : List Node) (goals : List ByteArray) : Bool := decide (nodes.length ≤ 256) && decide (1 ≤ goals.length) && decide (goals.length ≤ 512) && nodesOk [] nodes && goalsOk (targets nodes) [] goals
abbrev eP (nodes : List Node) (goals : List ByteArray) : AV := .agg [.sl 10 (nodes.map eN), eS goals]
theorem targets_succ {l : List Node} {i : Nat} (h : i < l.length) : targets (l.take (i + 1)) = targets (l.take i) ++ [(l.getD i default).target] := by
  unfold targets
  rw [List.take_succ_eq_append_getElem h, List.map_append]; simp [List.getD_eq_getElem?_getD, h]
theorem nodesOk_step {l : List Node} {i : Nat} (h : i < l.length) : nodesOk (targets (l.take i)) (l.drop i) = (rightN (targets (l.take i)) (l.getD i default) && nodesOk (targets (l.take (i + 1))) (l.drop (i + 1))) := by
  rw [drop_getD default h, targets_succ h]; rfl
theorem nodesOk_end {l : List Node} {i : Nat} (h : ¬ i < l.length) : nodesOk (targets (l.take i)) (l.drop i) = true := by
  rw [List.drop_eq_nil_of_le (by omega)]; rfl
theorem goalsOk_step {all l : List ByteArray} {i : Nat} (h : i < l.length) : goalsOk all (l.take i) (l.drop i) = (hasS all (l.getD i .empty) && !hasS (l.take i) (l.getD i .empty) && goalsOk all (l.take (i + 1)) (l.drop (i + 1))) := by
  rw [drop_getD .empty h, take_succD h]; rfl
theorem goalsOk_end {all l : List ByteArray} {i : Nat} (h : ¬ i < l.length) : goalsOk all (l.take i) (l.drop i) = true := by
  rw [List.drop_eq_nil_of_le (by omega)]; rfl
end Go.Proofs.YtepdiooaoegpfaaGreatDoor.Fx
end
