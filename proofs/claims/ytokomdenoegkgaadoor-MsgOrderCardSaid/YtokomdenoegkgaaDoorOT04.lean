/-
  Layer 4: sorting, the document's and the program's.
-/
import Derived.Test.YtokomdenoegkgaaDoorOV04
set_option linter.unusedVariables false
set_option linter.unusedSimpArgs false
set_option maxRecDepth 100000
namespace Go.Proofs.YtokomdenoegkgaaDoor
open Go Go.Proofs.YtokomdenoegkgaaDoor.Abs

abbrev dmsg : Msg := ⟨false, 0, 0, 0, 0, 0, .empty⟩
set_option maxHeartbeats 2000000 in
theorem sort'_ok (l : List Msg) (hl : l.length ≤ 1000000) : M 22 [Ms l] (.own 5 7 (Ml (sortL l))) := by
  refine go22 rfl rfl fun hb => ?_
  refine ⟨Nat, fun k => ⟨[(0, Ms l), (3, .own 950000 7 (Ml (sortL (l.take k)))), (4, .int k)], ⟨[], [950000], 950000, 0⟩⟩, fun k => k ≤ l.length, fun k => l.length - k, 0, Nat.zero_le _, ?_, ?_⟩
  · exact ⟨⟨L.le_refl _, rfl, L.le_refl _, trivial⟩, trivial, rfl, rfl⟩
  · rintro k hk _
    have hout := sortL_len l k
    obtain ⟨out, hO⟩ : ∃ out, out = sortL (l.take k) := ⟨_, rfl⟩
    rw [← hO] at hout
    refine ⟨fun hc => ?_, fun hc => ?_⟩
    · have hlt : k < l.length := by simpa [Ml_length] using hc
      refine ⟨l[k].L, ⟨k, rfl, by simp [Ml_get, hlt]⟩, ?_⟩
      refine ⟨_, idRight'_ok l[k].ext l[k].n, ?_⟩
      have hnext := sortL_take l k hlt
      rw [← hO] at hnext
      have hwk : IntKind.i64.wrap ((k : Int) + 1) = ((k + 1 : Nat) : Int) := by rw [wrap64 (by omega) (by omega)]; omega
      refine ⟨fun hw => ?_, fun hw => ?_⟩
      · have hw : within l[k].n l[k].ext = false := by simpa using hw
        refine ⟨k + 1, hlt, by show l.length - (k + 1) < l.length - k; omega, ?_⟩
        refine ⟨⟨L.le_refl _, ⟨rfl, L.le_of_eq ?_⟩, L.le_of_eq (by rw [hwk]), trivial⟩, trivial, rfl, rfl⟩
        rw [hnext, sortStep, if_neg (by simp [hw]), hO]
      · have hw : within l[k].n l[k].ext = true := by simpa using hw
        refine ⟨Nat, fun j => ⟨[(0, Ms l), (3, .own 940000 7 (Ml out)), (4, .int k), (5, .int j)], ⟨[], [940000], 940000, 0⟩⟩, fun j => j ≤ out.length ∧ scan l[k] out j = scan l[k] out out.length, fun j => j, out.length, ⟨Nat.le_refl _, rfl⟩, ?_, ?_⟩
        · exact ⟨⟨L.le_refl _, ⟨rfl, L.le_of_eq (by rw [hO])⟩, L.le_refl _, L.le_of_eq (by simp [Ml_length, hO]), trivial⟩, trivial, rfl, rfl⟩
        · rintro j ⟨hj, hsc⟩ _
          refine ⟨l[k].L, fun _ => ⟨k, rfl, by simp [Ml_get, hlt]⟩, ?_⟩
          have hw1 : 0 < j → IntKind.i64.wrap ((j : Int) - 1) = ((j - 1 : Nat) : Int) := fun h => by rw [wrap64 (by omega) (by omega)]; omega
          refine ⟨(out.getD (j - 1) dmsg).L, fun hg => ⟨j - 1, ?_, ?_⟩, ?_⟩
          · have hg : 0 < j := by simpa using hg
            exact hw1 hg
          · have hg : 0 < j := by simpa using hg
            have : j - 1 < out.length := by omega
            simp [Ml_get, this, List.getD_eq_getElem?_getD]
          refine ⟨_, fun _ => less'_ok l[k] (out.getD (j - 1) dmsg), ?_⟩
          refine ⟨rfl, ?_⟩
          refine ⟨fun hc2 => ?_, fun hc2 => ?_⟩
          · have hc2 : 0 < j ∧ l[k].less (out.getD (j - 1) dmsg) = true := by
              rw [cond_and] at hc2
              simpa using hc2
            have hlt3 : j - 1 < out.length := by omega
            refine ⟨j - 1, ⟨by omega, ?_⟩, by show j - 1 < j; omega, ?_⟩
            · rw [← hsc]
              obtain ⟨i, rfl⟩ : ∃ i, j = i + 1 := ⟨j - 1, by omega⟩
              have h2 := hc2.2
              simp only [Nat.add_sub_cancel] at h2 hlt3 ⊢
              rw [scan, List.getElem?_eq_getElem hlt3]
              have e : out.getD i dmsg = out[i] := by simp [List.getD_eq_getElem?_getD, hlt3]
              rw [e] at h2
              simp [h2]
            · exact ⟨⟨L.le_refl _, ⟨rfl, L.le_refl _⟩, L.le_refl _, L.le_of_eq (by rw [hw1 hc2.1]), trivial⟩, trivial, rfl, rfl⟩
          · have hfin : scan l[k] out out.length = j := by
              rw [← hsc]
              rcases Nat.eq_zero_or_pos j with h0 | h0
              · subst h0; rfl
              · obtain ⟨i, rfl⟩ : ∃ i, j = i + 1 := ⟨j - 1, by omega⟩
                have hlt3 : i < out.length := by omega
                rw [cond_and] at hc2
                have e : out.getD i dmsg = out[i] := by simp [List.getD_eq_getElem?_getD, hlt3]
                have h2 : l[k].less out[i] = false := by
                  rw [← e]
                  simpa using hc2
                rw [scan, List.getElem?_eq_getElem hlt3]
                simp [h2]
            have hmo : (Ml out).length = out.length := Ml_length out
            refine ⟨j, ⟨rfl, by omega⟩, ?_⟩
            have b1 : (([] : List (List L)).length + ((Ml out).take j).length) * 64 ≤ 140737488355328 := by rw [List.length_take]; simp only [List.length_nil]; omega
            have b2 : ((([] : List (List L)) ++ (Ml out).take j).length + ([l[k].L] : List (List L)).length) * 64 ≤ 140737488355328 := by rw [List.nil_append, List.length_take]; simp only [List.length_cons, List.length_nil]; omega
            have b3 : ((([] : List (List L)) ++ (Ml out).take j ++ [l[k].L]).length + ((Ml out).drop j).length) * 64 ≤ 140737488355328 := by rw [List.nil_append, List.length_append, List.length_take, List.length_drop]; simp only [List.length_cons, List.length_nil]; omega
            have hfinal : ([] : List (List L)) ++ (Ml out).take j ++ [l[k].L] ++ (Ml out).drop j = Ml (sortL (l.take (k + 1))) := by rw [hnext, sortStep, if_pos hw, hfin]; simp [ins', Ml, List.map_take, List.map_drop]
            refine ⟨b1, ?_⟩
            refine ⟨l[k].L, ⟨k, rfl, by simp [Ml_get, hlt]⟩, ?_⟩
            refine ⟨b2, ?_⟩
            refine ⟨j, ⟨rfl, by omega⟩, ?_⟩
            refine ⟨b3, ?_⟩
            refine ⟨rfl, ?_⟩
            refine ⟨k + 1, hlt, by show l.length - (k + 1) < l.length - k; omega, ?_⟩
            refine ⟨⟨L.le_refl _, ⟨rfl, L.le_of_eq ?_⟩, L.le_of_eq (by rw [hwk]), trivial⟩, trivial, rfl, rfl⟩
            exact congrArg (L.sl 7) hfinal
    · have hge : k = l.length := by
        have : ¬ ((k : Int) < l.length) := by simpa [Ml_length] using hc
        omega
      refine ⟨⟨⟨rfl, L.le_of_eq ?_⟩, trivial⟩, trivial, rfl, rfl⟩
      rw [hge, List.take_length]
end Go.Proofs.YtokomdenoegkgaaDoor
