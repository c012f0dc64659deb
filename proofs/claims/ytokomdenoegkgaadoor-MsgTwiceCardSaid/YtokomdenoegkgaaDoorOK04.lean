/-
  Layer 4: the law MsgSorts.
-/
import Derived.Test.YtokomdenoegkgaaDoorOF04
set_option linter.unusedVariables false
set_option linter.unusedSimpArgs false
set_option maxRecDepth 100000
namespace Go.Proofs.YtokomdenoegkgaaDoor
open Go Go.Proofs.YtokomdenoegkgaaDoor.Abs

theorem Ml_take (l : List Msg) (k : Nat) : (Ml l).take k = Ml (l.take k) := by simp [Ml, List.map_take]
theorem Ml_drop (l : List Msg) (k : Nat) : (Ml l).drop k = Ml (l.drop k) := by simp [Ml, List.map_drop]
theorem Ml_app (l k : List Msg) : Ml l ++ Ml k = Ml (l ++ k) := by simp [Ml]
theorem same_refl (l : List Msg) : M 20 [Ms l, Ms l] (.bool true) := by
  have := same_ok l l
  rw [(sameL_iff l l).2 rfl] at this
  exact this
/-- the messages of raw numbers, so many -/
def msL (raw : List R6) (data : ByteArray) (i : Nat) : List Msg := (List.range i).map (msA raw data)
theorem msL_succ (raw : List R6) (data : ByteArray) (i : Nat) : msL raw data (i + 1) = msL raw data i ++ [msA raw data i] := by simp [msL, List.range_succ]
theorem msL_length (raw : List R6) (data : ByteArray) (i : Nat) : (msL raw data i).length = i := by simp [msL]

set_option maxHeartbeats 1000000 in
theorem sorts_law (l : List Msg) (raw : List R6) (hr : ∀ r ∈ raw, r.ok) (hlen : l.length ≤ 9223372036854775807) (hlen2 : raw.length ≤ 9223372036854775807) : M 4 [Ms l, Rs raw] (.bool true) := by
  have hml := Rl_length raw
  have hmm := Ml_length l
  have hget : ∀ k (h : k < raw.length), raw.getD k r0 = raw[k] := fun k h => by simp [List.getD_eq_getElem?_getD, h]
  refine go4 rfl rfl fun hb => ?_
  refine ⟨_, awake_ok, ?_⟩
  refine ⟨min l.length 12, ⟨by rw [hmm]; omega, by rw [hmm]; omega⟩, ?_⟩
  refine ⟨Nat, fun i => ⟨[(1, Rs raw), (5, .bool true), (6, .d (.l (.sl 7 ((Ml l).take (min l.length 12))))), (7, .own 950000 7 (Ml (msL raw ⟨#[]⟩ i))), (8, .int i)], ⟨[], [950000], 900000, 0⟩⟩, fun i => i ≤ raw.length ∧ i ≤ 12, fun i => 12 - i, 0, ⟨Nat.zero_le _, Nat.zero_le _⟩, ?_, ?_⟩
  · exact ⟨⟨L.le_refl _, L.le_refl _, L.le_refl _, rfl, L.le_refl _, trivial⟩, trivial, rfl, rfl⟩
  rintro i ⟨hi, hi8⟩ _
  have hms := Ml_length (msL raw ⟨#[]⟩ i)
  have hml2 := msL_length raw ⟨#[]⟩ i
  refine ⟨fun hc => ?_, fun hc => ?_⟩
  · have hc : i < raw.length ∧ (i : Int) < 12 := by
      rw [cond_and] at hc
      simpa [hml] using hc
    have hc : i < raw.length ∧ i < 12 := ⟨hc.1, by omega⟩
    have hmo := msg_ok raw[i] (hr _ (List.getElem_mem hc.1)) ⟨#[]⟩
    have hma : msA raw ⟨#[]⟩ i = raw[i].msg ⟨#[]⟩ := by rw [msA, hget i hc.1]
    rw [← hma] at hmo
    refine ⟨raw[i].L, ⟨i, rfl, by simp [Rl_get, hc.1]⟩, ?_⟩
    refine ⟨_, hmo, ?_⟩
    refine ⟨by show ((Ml (msL raw ⟨#[]⟩ i)).length + 1) * 64 ≤ _; omega, ?_⟩
    refine ⟨i + 1, ⟨hc.1, hc.2⟩, by show 12 - (i + 1) < 12 - i; omega, ?_⟩
    refine ⟨⟨L.le_refl _, L.le_refl _, L.le_refl _, ⟨rfl, L.le_of_eq (congrArg (L.sl 7) ?_)⟩, L.le_of_eq (congrArg L.int ?_), trivial⟩, trivial, rfl, rfl⟩
    · rw [msL_succ, ← Ml_app]; rfl
    · rw [wrap64 (by omega) (by omega)]; rfl
  · obtain ⟨j, hj⟩ : ∃ j, j = min l.length 12 := ⟨_, rfl⟩
    have hlj : (l.take j).length ≤ 12 := by simp; omega
    have h1 := sort_ok (l.take j) (by omega)
    have h2 := sort'_ok (l.take j) (by omega)
    rw [Ms, ← Ml_take, hj] at h1 h2
    refine ⟨_, fun _ => h1, ?_⟩
    refine ⟨_, fun _ => h2, ?_⟩
    refine ⟨_, fun _ => same_refl _, ?_⟩
    refine ⟨_, fun _ => sort_ok (msL raw ⟨#[]⟩ i) (by omega), ?_⟩
    refine ⟨_, fun _ => sort'_ok (msL raw ⟨#[]⟩ i) (by omega), ?_⟩
    refine ⟨_, fun _ => same_refl _, ?_⟩
    exact ⟨⟨L.le_of_eq (by rfl), trivial⟩, trivial, rfl, rfl⟩
end Go.Proofs.YtokomdenoegkgaaDoor
