/-
  Layer 4: the law MsgTells.
-/
import Derived.Test.YtokomdenoegkgaaDoorOK04
set_option linter.unusedVariables false
set_option linter.unusedSimpArgs false
set_option maxRecDepth 100000
namespace Go.Proofs.YtokomdenoegkgaaDoor
open Go Go.Proofs.YtokomdenoegkgaaDoor.Abs

def encP (m : Msg) : ByteArray × Int := cond m.right (encB m, 0) (⟨#[]⟩, 1)
theorem encR_eq (m : Msg) : encR m = .tup [.str (encP m).1, .int (encP m).2] := by
  rw [encR, encP]; cases m.right <;> rfl
theorem encP_size (m : Msg) : (encP m).1.size ≤ 20 := by
  rw [encP]
  cases h : m.right with
  | false => exact Nat.zero_le _
  | true => exact (enc_size20 m h).2
theorem decR_eq (s : ByteArray) : decR s = .tup [(decT s).1.V, .str (decT s).2.1, .int (decT s).2.2] := rfl
theorem strs_get (Z : List ByteArray) (k : Nat) : (Z.map fun z => [L.str z])[k]? = (Z[k]?).map fun z => [L.str z] := by simp

set_option maxHeartbeats 4000000 in
theorem tells_law (a b : Msg) (r : R6) (s : ByteArray) (at' by' : Int) (hr : r.ok) (hat : InR at') (hby : InR by') : M 3 [a.V, b.V, .d (.agg r.L), .str s, .int at', .int by'] (.bool true) := by
  refine go3 rfl rfl fun hb => ?_
  refine ⟨_, awake_ok, ?_⟩
  refine ⟨fun _ => ?_, fun hlen => ?_⟩
  · exact ⟨⟨L.le_refl _, trivial⟩, trivial, rfl, rfl⟩
  have h1 := encode_ok a
  have h2 := encode'_ok a
  rw [encR_eq] at h1 h2
  have hes := encP_size a
  refine ⟨_, h1, ?_⟩
  refine ⟨_, h2, ?_⟩
  refine ⟨_, fun _ => right_ok a, ?_⟩
  refine ⟨_, fun _ => right'_ok a, ?_⟩
  refine ⟨_, fun _ => less_ok a b, ?_⟩
  refine ⟨_, fun _ => less'_ok a b, ?_⟩
  refine ⟨_, fun _ => less_ok b a, ?_⟩
  refine ⟨_, fun _ => less'_ok b a, ?_⟩
  refine ⟨rfl, ?_⟩
  refine ⟨fun h => ?_, fun _ => ?_⟩
  · exfalso
    simp at h
  obtain ⟨m, hm⟩ : ∃ m, m = r.msg a.data := ⟨_, rfl⟩
  have hmr : m.right = true := by rw [hm]; exact msg_right r a.data
  have hmo := msg_ok r hr a.data
  rw [← hm] at hmo
  refine ⟨_, hmo, ?_⟩
  have h3 := encode'_ok m
  rw [encR, hmr] at h3
  refine ⟨_, h3, ?_⟩
  have h20 := enc_size20 m hmr
  have hpr := pick_range (c := at') (n := (encB m).size) (by omega)
  refine ⟨_, pick_ok at' (encB m).size hat (by omega), ?_⟩
  obtain ⟨k, hk⟩ : ∃ k : Nat, pick at' (encB m).size = (k : Int) := ⟨(pick at' (encB m).size).toNat, by omega⟩
  have hkl : k < (encB m).size := by omega
  have hb2 := pick_range (c := by') (n := 256) (by omega)
  refine ⟨min s.size 200, ⟨by omega, by omega⟩, ?_⟩
  refine ⟨k, ⟨hk, by omega⟩, ?_⟩
  refine ⟨min s.size 9, ⟨by omega, by omega⟩, ?_⟩
  refine ⟨by show (encB m).size + (cutS s 9).size ≤ _; rw [cutS_size]; omega, ?_⟩
  refine ⟨k, ⟨hk, by omega⟩, ?_⟩
  refine ⟨_, pick_ok by' 256 hby (by omega), ?_⟩
  refine ⟨⟨#[pb (pick by' 256)]⟩, byte_one hb2.1 hb2.2, ?_⟩
  have hk1 : IntKind.i64.wrap (pick at' (encB m).size + 1) = ((k + 1 : Nat) : Int) := by rw [hk, wrap64 (by omega) (by omega)]; omega
  refine ⟨by show ((encB m).extract 0 k).size + 1 ≤ _; rw [size_extract]; omega, ?_⟩
  refine ⟨k + 1, ⟨hk1, by omega⟩, ?_⟩
  refine ⟨by show ((encB m).extract 0 k ++ ⟨#[pb (pick by' 256)]⟩).size + ((encB m).extract (k + 1) (encB m).size).size ≤ _; simp only [ByteArray.size_append, size_extract, size_one]; omega, ?_⟩
  refine ⟨rfl, ?_⟩
  obtain ⟨Z, hZ⟩ : ∃ Z : List ByteArray, Z = [cutS s 200, (encP a).1, encB m, (encB m).extract 0 k, encB m ++ cutS s 9, (encB m).extract 0 k ++ ⟨#[pb (pick by' 256)]⟩ ++ (encB m).extract (k + 1) (encB m).size] := ⟨_, rfl⟩
  have hZl : Z.length = 6 := by rw [hZ]; rfl
  have hZs : ∀ z ∈ Z, z.size ≤ 1000 := by
    intro z hz
    rw [hZ] at hz
    simp only [List.mem_cons, List.not_mem_nil, or_false] at hz
    rcases hz with rfl | rfl | rfl | rfl | rfl | rfl
    · rw [cutS_size]; omega
    · omega
    · omega
    · rw [size_extract]; omega
    · rw [ByteArray.size_append, cutS_size]; omega
    · simp only [ByteArray.size_append, size_extract, size_one]; omega
  refine ⟨Nat, fun i => ⟨[(13, .bool true), (127, .d (.l (.sl 1 (Z.map fun z => [L.str z])))), (128, .int 6), (129, .int i)], ⟨[], [], 900000, 0⟩⟩, fun i => i ≤ 6, fun i => 6 - i, 0, Nat.zero_le _, ?_, ?_⟩
  · exact ⟨⟨L.le_refl _, L.le_of_eq (congrArg (L.sl 1) (by rw [hZ]; rfl)), L.le_refl _, L.le_refl _, trivial⟩, trivial, rfl, rfl⟩
  rintro i hi _
  have hi : i ≤ 6 := hi
  refine ⟨fun hc => ?_, fun hc => ?_⟩
  · have hlt : i < 6 := by
      have : (i : Int) < 6 := by simpa using hc
      omega
    have hlz : i < Z.length := by omega
    have hz := hZs _ (List.getElem_mem hlz)
    refine ⟨[L.str Z[i]], ⟨i, rfl, by rw [strs_get, List.getElem?_eq_getElem hlz]; rfl⟩, ?_⟩
    have d1 := decode_ok Z[i] (by omega)
    have d2 := decode'_ok Z[i] (by omega)
    rw [decR_eq] at d1 d2
    refine ⟨_, d1, ?_⟩
    refine ⟨_, d2, ?_⟩
    refine ⟨fun h => ?_, fun _ => ?_⟩
    · exfalso
      have h : cond (cond (!(decT Z[i]).1.same (decT Z[i]).1) true (!((decT Z[i]).2.1.toList == (decT Z[i]).2.1.toList))) true ((decT Z[i]).2.2 != (decT Z[i]).2.2) = true := h
      rw [same_self] at h
      simp at h
    · refine ⟨i + 1, hlt, by show 6 - (i + 1) < 6 - i; omega, ?_⟩
      refine ⟨⟨L.le_refl _, L.le_refl _, L.le_refl _, L.le_of_eq (congrArg L.int ?_), trivial⟩, trivial, rfl, rfl⟩
      rw [wrap64 (by omega) (by omega)]; rfl
  · exact ⟨⟨L.le_refl _, trivial⟩, trivial, rfl, rfl⟩
end Go.Proofs.YtokomdenoegkgaaDoor
