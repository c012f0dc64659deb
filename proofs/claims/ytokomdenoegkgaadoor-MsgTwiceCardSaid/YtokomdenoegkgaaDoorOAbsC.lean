/-
  Operations under a guard: the heap's part changes in no box. The operations of a region.
-/
import Derived.Test.YtokomdenoegkgaaDoorOAbsT
set_option linter.unusedVariables false
set_option linter.unusedSimpArgs false
namespace Go.Proofs.YtokomdenoegkgaaDoor.Abs
open Go

variable {P : Program} {T : List (Nat × TI)} {E : Env} {w : World} {g : G} {K : Kont} {M : MeetsT} {ob : Prop → Prop}

mutual
theorem retok_some : ∀ (r : V) (tk : List Nat) (nid : Nat) (K : V → List Nat → Nat → Prop), V.retok r tk nid K → ∃ v t n, K v t n ∧ n ≤ nid ∧ ∀ k, isIn t k = true → isIn tk k = true ∨ (n ≤ k ∧ k < nid)
  | .d x, tk, nid, K, h => by simp only [V.retok] at h; exact ⟨_, _, _, h, Nat.le_refl _, fun _ h => .inl h⟩
  | .own k s l, tk, nid, K, h => by
    cases nid with
    | zero => simp [V.retok] at h
    | succ n =>
      simp only [V.retok] at h
      refine ⟨_, _, _, h, by omega, fun q hq => ?_⟩
      rw [isIn_cons] at hq
      by_cases e : n = q
      · exact .inr (by omega)
      · simp [e] at hq; exact .inl hq
  | .agg l, tk, nid, K, h => by simp only [V.retok] at h; obtain ⟨a, b, c, h, h2⟩ := retoks_some l tk nid _ h; exact ⟨_, _, _, h, h2⟩
  | .tup l, tk, nid, K, h => by simp only [V.retok] at h; obtain ⟨a, b, c, h, h2⟩ := retoks_some l tk nid _ h; exact ⟨_, _, _, h, h2⟩
  | .any, _, _, _, h => by simp [V.retok] at h
  | .ref _ _, _, _, _, h => by simp [V.retok] at h
  | .sref _ _ _ _, _, _, _, h => by simp [V.retok] at h
  | .ep _ _, tk, nid, K, h => by simp only [V.retok] at h; exact ⟨_, _, _, h, Nat.le_refl _, fun _ h => .inl h⟩
  | .fn _ _ _, tk, nid, K, h => by
    simp only [V.retok] at h
    split at h
    · exact ⟨_, _, _, h, Nat.le_refl _, fun _ h => .inl h⟩
    · exact h.elim
  | .bq _ _, _, _, _, h => by simp [V.retok] at h
  | .ob _ _, _, _, _, h => by simp [V.retok] at h
  | .msl _ _ _ _, _, _, _, h => by simp [V.retok] at h
  | .er _ _ _ _, _, _, _, h => by simp [V.retok] at h
  | .mp _, _, _, _, h => by simp [V.retok] at h
theorem retoks_some : ∀ (r : List V) (tk : List Nat) (nid : Nat) (K : List V → List Nat → Nat → Prop), V.retoks r tk nid K → ∃ v t n, K v t n ∧ n ≤ nid ∧ ∀ k, isIn t k = true → isIn tk k = true ∨ (n ≤ k ∧ k < nid)
  | [], tk, nid, K, h => by simp only [V.retoks] at h; exact ⟨_, _, _, h, Nat.le_refl _, fun _ h => .inl h⟩
  | v :: r, tk, nid, K, h => by
    simp only [V.retoks] at h
    obtain ⟨a, b, c, h, h2, h3⟩ := retok_some v tk nid _ h
    obtain ⟨a', b', c', h', h2', h3'⟩ := retoks_some r _ _ _ h
    refine ⟨_, _, _, h', by omega, fun k hk => ?_⟩
    rcases h3' k hk with h | h
    · rcases h3 k h with h | h
      · exact .inl h
      · exact .inr (by omega)
    · exact .inr (by omega)
end

/-- an operation that is not carried out -/
theorem W1_skip {bx : List (Nat × Box)} {tk : List Nat} {nid : Nat} {ev : Operand → V} {op : Op} (hg : guardable op = true) (hW : W1 T M ob bx tk nid ev op K) :
    ∃ v d, K v d ∧ d.nb = [] ∧ d.nid ≤ nid ∧ ∀ k, isIn d.add k = true → d.nid ≤ k ∧ k < nid := by
  have no : ∀ v, K v ⟨[], [], [], nid⟩ → ∃ v d, K v d ∧ d.nb = [] ∧ d.nid ≤ nid ∧ ∀ k, isIn d.add k = true → d.nid ≤ k ∧ k < nid :=
    fun v h => ⟨v, _, h, rfl, Nat.le_refl _, fun k hk => by simp [isIn] at hk⟩
  have one : ∀ v n ks, nid = n + 1 → K v ⟨[], ks, [n], n⟩ → ∃ v d, K v d ∧ d.nb = [] ∧ d.nid ≤ nid ∧ ∀ k, isIn d.add k = true → d.nid ≤ k ∧ k < nid := by
    intro v n ks e h
    refine ⟨v, _, h, rfl, by simp; omega, fun k hk => ?_⟩
    rw [isIn_cons] at hk
    simp [isIn] at hk
    subst hk
    exact ⟨Nat.le_refl _, by omega⟩
  unfold W1 at hW
  split at hW
  · simp only [force_eq] at hW; exact no _ hW
  · simp [guardable] at hg
  · simp [guardable] at hg
  · simp [guardable] at hg
  · revert hW
    simp only [Wload, force_eq, forceLV_eq, forceL_eq]
    repeat' split
    all_goals first | exact no _ | exact fun h => h.elim
  · simp [guardable] at hg
  · revert hW
    simp only [WnilCheck]
    repeat' split
    all_goals first | exact no _ | exact fun h => h.elim
  · revert hW
    simp only [WfieldAddr]
    repeat' split
    all_goals first | exact no _ | exact fun h => h.elim
  · revert hW
    simp only [Wfield, force_eq]
    repeat' split
    all_goals first | exact no _ | exact fun h => h.elim
  · revert hW
    simp only [WbinOp, WnilCmp, WeqS, forceL_eq]
    repeat' split
    all_goals first | exact no _ | exact fun ⟨_, h⟩ => no _ h | exact fun h => h.elim
  · revert hW
    simp only [WunOp]
    repeat' split
    all_goals first | exact no _ | exact fun h => h.elim
  · revert hW
    simp only [Wextract, force_eq]
    repeat' split
    all_goals first | exact no _ | exact fun h => h.elim
  · revert hW
    simp only [WindexAddr]
    repeat' split
    all_goals first | exact fun ⟨y, h1, h3⟩ => no _ h3 | exact fun h => h.elim
  · revert hW
    cases nid with
    | zero => simp [WsliceFull]
    | succ n =>
      simp only [WsliceFull]
      repeat' split
      all_goals first | exact fun ⟨j, h1, h4⟩ => one _ n _ rfl h4 | exact fun h => h.elim
  · revert hW
    simp only [WsliceD]
    repeat' split
    all_goals first | exact no _ | exact fun ⟨_, _, h⟩ => no _ h | exact fun h => h.elim
  · revert hW
    simp only [Windex]
    repeat' split
    all_goals first | exact fun ⟨_, _, h⟩ => no _ h | exact fun h => h.elim
  · revert hW
    simp only [Wconvert]
    repeat' split
    all_goals first | exact no _ | exact fun ⟨h1, h2⟩ => one _ _ _ rfl h2 | exact fun ⟨_, _, h⟩ => no _ h | exact fun h => h.elim
  · revert hW
    simp only [Wbuild, forceLV_eq]
    repeat' split
    all_goals first | exact no _ | exact fun h => h.elim
  · revert hW
    simp only [Wminmax]
    repeat' split
    all_goals first | exact no _ | exact fun h => h.elim
  · revert hW
    simp only [Wminmax]
    repeat' split
    all_goals first | exact no _ | exact fun h => h.elim
  · simp only [forceLV_eq] at hW; exact no _ hW
  · revert hW
    split
    · cases nid with
      | zero => simp [WbuildSlice]
      | succ n =>
        simp only [WbuildSlice, forceL_eq]
        repeat' split
        all_goals first | exact fun h => one _ n _ rfl h | exact fun h => h.elim
    · exact fun h => h.elim
  · revert hW
    simp only [Wlen]
    repeat' split
    all_goals first | exact no _ | exact fun h => h.elim
  · revert hW
    split
    · cases nid with
      | zero => simp [Wappend]
      | succ n =>
        simp only [Wappend]
        repeat' split
        all_goals first | exact fun ⟨h1, h2⟩ => one _ n _ rfl h2 | exact fun h => h.elim
    · exact fun h => h.elim
  · revert hW
    simp only [Wcall, forceLV_eq]
    repeat' split
    all_goals first | exact fun h => h.elim | skip
    intro ⟨r, h1, h2⟩
    obtain ⟨v, t, n, k1, k2, k3⟩ := retok_some _ _ _ _ h2
    refine ⟨_, _, k1, rfl, k2, fun k hk => ?_⟩
    rcases k3 k hk with h | h
    · simp [isIn] at h
    · exact h
  · exact hW.elim
end Go.Proofs.YtokomdenoegkgaaDoor.Abs
