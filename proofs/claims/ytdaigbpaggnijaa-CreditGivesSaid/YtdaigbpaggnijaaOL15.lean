/-
  Layer 15: the law functions.
-/
import Derived.Test.YtdaigbpaggnijaaOS15
set_option linter.unusedVariables false
set_option linter.unusedSimpArgs false
namespace Go.Proofs.Ytdaigbpaggnijaa
open Go Go.Proofs.Ytdaigbpaggnijaa.Abs

def ups (k : Nat) : List Int := (List.range k).map fun (i : Nat) => (100 : Int) + (i : Int)
theorem ups_succ (k : Nat) : ups (k + 1) = ups k ++ [100 + (k : Int)] := by simp [ups, List.range_succ]
theorem ups_len (k : Nat) : (ups k).length = k := by simp [ups]
set_option maxRecDepth 100000 in
theorem all_facts : ∀ m : Fin 17, ∀ k : Fin 17, k < m → takes (m.val : Int) (ups k) (100 + (k.val : Int)) = true ∧ takeE (m.val : Int) (ups k) (100 + (k.val : Int)) = 0 ∧ left (m.val : Int) (ups (k + 1)) = (m.val : Int) - k - 1 := by decide +kernel
set_option maxRecDepth 100000 in
theorem all_end : ∀ m : Fin 17, 1 ≤ m.val → takeE (m.val : Int) (ups m) 99 = 40 ∧ right (m.val : Int) (ups m) = true ∧ keeps (ups m) (ups m) = [] ∧ left (m.val : Int) [] = m := by decide +kernel

set_option maxRecDepth 100000 in
theorem all_ok (window : Int) (hw : In64 window) : M 7 [.int window] (.bool true) := by
  refine go7 rfl rfl fun hb => ?_
  have hcw := crW_range window
  refine ⟨_, awake_ok, ?_⟩
  refine ⟨_, pick_ok window 16 hw (by omega), ?_⟩
  obtain ⟨m, hm⟩ : ∃ m : Nat, crW window = m := ⟨(crW window).toNat, by omega⟩
  have hm1 : 1 ≤ m ∧ m ≤ 16 := by omega
  have e1 : IntKind.i64.wrap (1 + pick window 16) = (m : Int) := by
    rw [← hm, wrap64]; rfl
    · have := hcw.1; rw [crW] at this; omega
    · have := hcw.2; rw [crW] at this; omega
  obtain ⟨z, hz⟩ : ∃ z, z = IntKind.i64.wrap (1 + pick window 16) := ⟨_, rfl⟩
  rw [← hz] at e1
  have step : ∀ k, k < m → takes (m : Int) (ups k) (100 + (k : Int)) = true ∧ takeE (m : Int) (ups k) (100 + (k : Int)) = 0 ∧ left (m : Int) (ups (k + 1)) = (m : Int) - k - 1 := fun k hk => all_facts ⟨m, by omega⟩ ⟨k, by omega⟩ (by simpa using hk)
  have n1 : M 9 [.int (IntKind.i64.wrap (1 + pick window 16))] (.tup [.agg [.int m, .own 0 1 []], .int 0]) := by
    have := new_ok (m : Int)
    rw [if_pos (by omega), if_pos (by omega)] at this
    rw [← hz, e1]; exact this
  refine ⟨_, n1, ?_⟩
  refine ⟨Nat, fun k => ⟨[(3, .bool true), (4, .int m), (5, .ref 999998 0), (6, .int 0), (7, .own 999001 1 (Il (ups k))), (8, .int k)],
    ⟨[(999998, .cells [.int m, .own 999000 1 (Il (ups k))])], [999000, 999001], 900000, 0⟩⟩, fun k => k ≤ m, fun k => m - k, 0, Nat.zero_le _, ?_, ?_⟩
  · exact ⟨⟨L.le_refl _, L.le_of_eq (by rw [← hz, e1]), ⟨rfl, rfl⟩, L.le_refl _, rfl, L.le_refl _, trivial⟩, ⟨⟨L.le_refl _, ⟨rfl, L.le_refl _⟩, trivial⟩, trivial⟩, rfl, rfl⟩
  · intro k hk _
    have inc : IntKind.i64.wrap ((k : Int) + 1) = ((k + 1 : Nat) : Int) := by rw [wrap64 (by omega) (by omega)]; simp
    refine ⟨fun h => ?_, fun h => ?_⟩
    · have hlt : k < m := by simpa using h
      obtain ⟨s1, s2, s3⟩ := step k hlt
      have e2 : IntKind.i64.wrap (100 + (k : Int)) = 100 + (k : Int) := wrap64 (by omega) (by omega)
      have t1 : M 19 [Dc m (ups k), .int (IntKind.i64.wrap (100 + (k : Int)))] (.tup [.agg [.int m, .own 0 1 (Il (ups (k + 1)))], .int 0]) := by
        have := take_ok (m : Int) (ups k) (100 + (k : Int)) (by show _ ≤ _; rw [ups_len]; omega)
        rw [s1, s2, if_pos rfl, ← ups_succ] at this
        rw [e2]; exact this
      refine ⟨_, t1, ?_⟩
      refine ⟨_, fun _ => left_ok (m : Int) (ups (k + 1)), ?_⟩
      refine ⟨fun h2 => ?_, fun h2 => ?_⟩
      · exfalso
        rw [s3, wrap64 (x := (m : Int) - k) (by omega) (by omega), wrap64 (by omega) (by omega)] at h2
        simp at h2
      · refine ⟨?_, ?_⟩
        · show ((Il (ups k)).length + 1) * 8 ≤ _
          rw [Il_length, ups_len]; omega
        · refine ⟨k + 1, hlt, ?_, ?_⟩
          · show m - (k + 1) < m - k
            omega
          · refine ⟨⟨L.le_refl _, L.le_refl _, ⟨rfl, rfl⟩, L.le_refl _, ⟨rfl, L.le_of_eq ?_⟩, L.le_of_eq (by rw [inc]), trivial⟩, ⟨⟨L.le_refl _, ⟨rfl, L.le_refl _⟩, trivial⟩, trivial⟩, rfl, rfl⟩
            rw [e2, ups_succ]; simp [Il, D.cells]
    · have hge : k = m := by have : ¬ ((k : Int) < m) := by simpa using h
                             omega
      subst hge
      obtain ⟨f1, f2, f3, f4⟩ := all_end ⟨k, by omega⟩ (by simpa using hm1.1)
      simp only at f1 f2 f3 f4
      have sm : Sm (ups k) := by show _ ≤ _; rw [ups_len]; omega
      have t1 := take_ok (k : Int) (ups k) 99 sm
      rw [f1] at t1
      have g1 := give_ok (k : Int) (ups k) (ups k) sm
      rw [giveL, f2, if_pos rfl, if_pos rfl, if_pos rfl, f3, ups_len] at g1
      have r1 := reset_ok (k : Int) (ups k) sm
      rw [f2, if_pos rfl, if_pos rfl, if_pos rfl] at r1
      have l1 := left_ok (k : Int) []
      rw [f4] at l1
      have i1 : M 25 [Ds (ups k), Ds (ups k)] (.bool true) := by have := ints_ok (ups k) (ups k); simpa using this
      have s1 : M 11 [Dc k [], Dc k []] (.bool true) := by have := same_ok (k : Int) [] k []; simpa using this
      refine ⟨_, t1, ?_⟩
      refine ⟨_, g1, ?_⟩
      refine ⟨_, r1, ?_⟩
      refine ⟨_, fun _ => l1, ?_⟩
      refine ⟨_, fun _ => i1, ?_⟩
      refine ⟨_, fun _ => l1, ?_⟩
      refine ⟨_, fun _ => s1, ?_⟩
      refine ⟨⟨L.le_of_eq ?_, trivial⟩, trivial, rfl, rfl⟩
      simp
end Go.Proofs.Ytdaigbpaggnijaa
