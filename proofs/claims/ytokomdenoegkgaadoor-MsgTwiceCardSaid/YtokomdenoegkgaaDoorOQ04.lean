/-
  Layer 4: the example.
-/
import Derived.Test.YtokomdenoegkgaaDoorOP04
set_option linter.unusedVariables false
set_option linter.unusedSimpArgs false
set_option maxRecDepth 100000
namespace Go.Proofs.YtokomdenoegkgaaDoor
open Go Go.Proofs.YtokomdenoegkgaaDoor.Abs

abbrev ma : Msg := ⟨false, 5, 2, 1, 3, 4, ⟨#[]⟩⟩
abbrev mb : Msg := ⟨false, 4, 3, 1, 1, 9, ⟨#[97, 98]⟩⟩
theorem aw1 : encR ma = .tup [.str ⟨#[0, 0, 0, 5, 2, 0, 1, 0, 3, 0, 4, 0]⟩, .int 0] := by rfl
theorem aw2 : decR (⟨#[0, 0, 0, 5, 2, 0, 1, 0, 3, 0, 4, 0]⟩ ++ ⟨#[120]⟩) = .tup [ma.V, .str ⟨#[120]⟩, .int 0] := by
  have := dec_enc ma (by rfl) ⟨#[120]⟩
  have e : encB ma = ⟨#[0, 0, 0, 5, 2, 0, 1, 0, 3, 0, 4, 0]⟩ := by rfl
  rw [e] at this
  rw [decR, this]
theorem aw3 : decR ⟨#[120]⟩ = .tup [zmsg.V, .str ⟨#[]⟩, .int 3] := by rfl
theorem aw4 : sortL [ma, mb] = [mb, ma] := by rfl
theorem aw5 : encR zmsg = .tup [.str ⟨#[]⟩, .int 1] := by rfl
theorem awake_ok : M 9 [] (.bool true) := by
  refine go9 rfl rfl fun hb => ?_
  have h1 := encode_ok ma
  rw [aw1] at h1
  have h2 := decode_ok (⟨#[0, 0, 0, 5, 2, 0, 1, 0, 3, 0, 4, 0]⟩ ++ ⟨#[120]⟩) (by decide)
  rw [aw2] at h2
  have h3 := decode_ok ⟨#[120]⟩ (by decide)
  rw [aw3] at h3
  have h4 := sort_ok [ma, mb] (by decide)
  rw [aw4] at h4
  have h5 := encode_ok zmsg
  rw [aw5] at h5
  refine ⟨_, h1, ?_⟩
  refine ⟨by decide, ?_⟩
  refine ⟨_, h2, ?_⟩
  refine ⟨_, h3, ?_⟩
  refine ⟨_, _, h4, ?_⟩
  refine ⟨_, h5, ?_⟩
  have h6 := same_ok [mb, ma] [mb, ma]
  rw [show sameL [mb, ma] [mb, ma] = true from (sameL_iff _ _).2 rfl] at h6
  refine ⟨_, fun _ => h6, ?_⟩
  have h7 := less_ok mb ma
  rw [show mb.less ma = true by rfl] at h7
  refine ⟨_, fun _ => h7, ?_⟩
  have h8 := right_ok ma
  rw [show ma.right = true by rfl] at h8
  refine ⟨_, fun _ => h8, ?_⟩
  refine ⟨⟨L.le_of_eq (congrArg L.bool ?_), trivial⟩, trivial, rfl, rfl⟩
  simp [eqCells, eqC]
end Go.Proofs.YtokomdenoegkgaaDoor
