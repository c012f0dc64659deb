/-
  Layer 4: messages are sorted.
  Printed by wip/tools/sort04.py.
-/
import Derived.Test.YtokomdenoegkgaaDoorOT04
set_option linter.unusedVariables false
set_option linter.unusedSimpArgs false
set_option maxRecDepth 100000
namespace Go.Proofs.YtokomdenoegkgaaDoor
open Go Go.Proofs.YtokomdenoegkgaaDoor.Abs

set_option maxHeartbeats 2000000 in
theorem sort_ok (l : List Msg) (hl : l.length ≤ 1000000) : MM 21 [] [Ms l] [] (Ms (sortL l)) := by
  refine gb21 [] [] rfl rfl fun hb => ?_
  refine ⟨Nat × Bool, fun p : Nat × Bool => (match p.2 with | false => (⟨[(2, .d (.l .nil)), (6, Ms l), (7, .int l.length), (8, .int p.1)], ⟨[], [], 950000, 0⟩⟩ : ASt) | true => ⟨[(2, .msl 950000 7 0 (Ml (sortL (l.take p.1))).length), (6, Ms l), (7, .int l.length), (8, .int p.1)], ⟨[(950000, .arr 7 (Ml (sortL (l.take p.1))) false)], [], 940000, 0⟩⟩), fun p => p.1 ≤ l.length ∧ p.2 = !(sortL (l.take p.1)).isEmpty, fun p => l.length - p.1, (0, false), ⟨Nat.zero_le _, rfl⟩, ?_, ?_⟩
  · exact ⟨⟨L.le_refl _, L.le_refl _, L.le_of_eq (by rw [Ml_length]), L.le_refl _, trivial⟩, trivial, rfl, rfl⟩
  · rintro ⟨k, b⟩ ⟨hk, hbe⟩ _
    have hk : k ≤ l.length := hk
    have hbe : b = !(sortL (l.take k)).isEmpty := hbe
    have hout := sortL_len l k
    obtain ⟨out, hO⟩ : ∃ out, out = sortL (l.take k) := ⟨_, rfl⟩
    rw [← hO] at hout hbe
    have hmo : (Ml out).length = out.length := Ml_length out
    have hwk : IntKind.i64.wrap ((k : Int) + 1) = ((k + 1 : Nat) : Int) := by rw [wrap64 (by omega) (by omega)]; omega
    cases b with
    | false =>
      have hout0 : out = [] := by
        cases out with
        | nil => rfl
        | cons a t => simp at hbe
      refine ⟨fun hc => ?_, fun hc => ?_⟩
      · have hlt : k < l.length := by simpa using hc
        refine ⟨l[k].L, ⟨k, rfl, by simp [Ml_get, hlt]⟩, ?_⟩
        have hnext := sortL_take l k hlt
        rw [← hO, hout0] at hnext
        refine ⟨_, idRight_ok l[k].ext l[k].n, ?_⟩
        refine ⟨fun hw => ?_, fun hw => ?_⟩
        · have hw : within l[k].n l[k].ext = false := by simpa using hw
          rw [sortStep, if_neg (by simp [hw])] at hnext
          refine ⟨(k + 1, false), ⟨hlt, by rw [hnext]; rfl⟩, by show l.length - (k + 1) < l.length - k; omega, ?_⟩
          exact ⟨⟨L.le_refl _, L.le_refl _, L.le_refl _, L.le_of_eq (by rw [hwk]), trivial⟩, trivial, rfl, rfl⟩
        · have hw : within l[k].n l[k].ext = true := by simpa using hw
          rw [sortStep, if_pos hw] at hnext
          have hnext : sortL (l.take (k + 1)) = [l[k]] := hnext
          refine ⟨Unit, fun _ => ⟨[(2, .d (.l .nil)), (4, .ref 949999 0), (5, .int 0), (6, Ms l), (7, .int l.length), (8, .int k)], ⟨[(949999, .cells l[k].C)], [], 940000, 0⟩⟩, fun _ => True, fun _ => 0, (), trivial, ?_, ?_⟩
          · exact ⟨⟨L.le_refl _, ⟨rfl, rfl⟩, L.le_refl _, L.le_refl _, L.le_refl _, L.le_refl _, trivial⟩, ⟨⟨L.le_refl _, L.le_refl _, L.le_refl _, L.le_refl _, L.le_refl _, L.le_refl _, L.le_refl _, trivial⟩, trivial⟩, rfl, rfl⟩
          · rintro _ _ _
            refine ⟨dmsg.L, fun h => absurd h (by decide), ?_⟩
            refine ⟨.bool false, fun h => absurd h (by decide), ?_⟩
            refine ⟨rfl, ?_⟩
            refine ⟨fun hc2 => absurd hc2 (by decide), fun _ => ?_⟩
            refine ⟨_, _, insert_nil [l[k].L] (by simp) (by simp), ?_⟩
            refine ⟨(k + 1, true), ⟨hlt, by rw [hnext]; rfl⟩, by show l.length - (k + 1) < l.length - k; omega, ?_⟩
            refine ⟨⟨rfl, rfl⟩, ⟨⟨rfl, rfl, rfl, ?_⟩, L.le_refl _, L.le_refl _, L.le_of_eq (by rw [hwk]), trivial⟩, ⟨⟨rfl, ⟨[], ?_⟩, fun h => by cases h⟩, trivial⟩, rfl, rfl⟩
            · rw [hnext]; rfl
            · rw [hnext]; rfl
      · have hge : k = l.length := by
          have : ¬ ((k : Int) < l.length) := by simpa using hc
          omega
        rw [hge, List.take_length] at hO
        rw [hout0] at hO
        refine ⟨⟨?_, trivial⟩, trivial, rfl, rfl⟩
        rw [← hO]
        exact L.le_nil 7
    | true =>
      refine ⟨fun hc => ?_, fun hc => ?_⟩
      · have hlt : k < l.length := by simpa using hc
        refine ⟨l[k].L, ⟨k, rfl, by simp [Ml_get, hlt]⟩, ?_⟩
        have hnext := sortL_take l k hlt
        rw [← hO] at hnext
        refine ⟨_, idRight_ok l[k].ext l[k].n, ?_⟩
        refine ⟨fun hw => ?_, fun hw => ?_⟩
        · have hw : within l[k].n l[k].ext = false := by simpa using hw
          rw [sortStep, if_neg (by simp [hw])] at hnext
          refine ⟨(k + 1, true), ⟨hlt, by rw [hnext]; exact hbe⟩, by show l.length - (k + 1) < l.length - k; omega, ?_⟩
          exact ⟨⟨⟨rfl, rfl, rfl, by rw [hnext, hO]⟩, L.le_refl _, L.le_refl _, L.le_of_eq (by rw [hwk]), trivial⟩, ⟨⟨rfl, ⟨[], by rw [hnext, hO, List.append_nil]⟩, fun h => by cases h⟩, trivial⟩, rfl, rfl⟩
        · have hw : within l[k].n l[k].ext = true := by simpa using hw
          refine ⟨Nat, fun j => ⟨[(2, .msl 950000 7 0 (Ml out).length), (4, .ref 939999 0), (5, .int j), (6, Ms l), (7, .int l.length), (8, .int k)], ⟨[(939999, .cells l[k].C), (950000, .arr 7 (Ml out) false)], [], 930000, 0⟩⟩, fun j => j ≤ out.length ∧ scan l[k] out j = scan l[k] out out.length, fun j => j, out.length, ⟨Nat.le_refl _, rfl⟩, ?_, ?_⟩
          · exact ⟨⟨⟨rfl, rfl, rfl, by rw [hO]⟩, ⟨rfl, rfl⟩, L.le_of_eq (by rw [← hO, hmo]), L.le_refl _, L.le_refl _, L.le_refl _, trivial⟩, ⟨⟨L.le_refl _, L.le_refl _, L.le_refl _, L.le_refl _, L.le_refl _, L.le_refl _, L.le_refl _, trivial⟩, ⟨rfl, ⟨[], by rw [hO, List.append_nil]⟩, fun h => by cases h⟩, trivial⟩, rfl, rfl⟩
          · rintro j ⟨hj, hsc⟩ _
            have hw1 : 0 < j → IntKind.i64.wrap ((j : Int) - 1) = ((j - 1 : Nat) : Int) := fun h => by rw [wrap64 (by omega) (by omega)]; omega
            refine ⟨j - 1, fun hg => ⟨?_, ?_⟩, ?_⟩
            · have hg : 0 < j := by simpa using hg
              exact hw1 hg
            · have hg : 0 < j := by simpa using hg
              show j - 1 < (Ml out).length
              omega
            refine ⟨(out.getD (j - 1) dmsg).L, fun hg => ?_, ?_⟩
            · have hg : 0 < j := by simpa using hg
              have : j - 1 < out.length := by omega
              rw [Nat.zero_add]
              simp [Ml_get, this, List.getD_eq_getElem?_getD]
            refine ⟨_, fun _ => less_ok l[k] (out.getD (j - 1) dmsg), ?_⟩
            refine ⟨rfl, ?_⟩
            refine ⟨fun hc2 => ?_, fun hc2 => ?_⟩
            · have hc2 : 0 < j ∧ l[k].less (out.getD (j - 1) dmsg) = true := by
                rw [cond_and] at hc2
                simpa using hc2
              have hlt3 : j - 1 < out.length := by omega
              refine ⟨j - 1, ⟨by omega, ?_⟩, by show j - 1 < j; omega, ?_⟩
              · rw [← hsc]
                obtain ⟨i, rfl⟩ : ∃ i, j = i + 1 := ⟨j - 1, by omega⟩
                have h2 := hc2.2
                simp only [Nat.add_sub_cancel] at h2 hlt3 ⊢
                rw [scan, List.getElem?_eq_getElem hlt3]
                have e : out.getD i dmsg = out[i] := by simp [List.getD_eq_getElem?_getD, hlt3]
                rw [e] at h2
                simp [h2]
              · exact ⟨⟨⟨rfl, rfl, rfl, rfl⟩, ⟨rfl, rfl⟩, L.le_of_eq (by rw [hw1 hc2.1]), L.le_refl _, L.le_refl _, L.le_refl _, trivial⟩, ⟨⟨L.le_refl _, L.le_refl _, L.le_refl _, L.le_refl _, L.le_refl _, L.le_refl _, L.le_refl _, trivial⟩, ⟨rfl, ⟨[], by rw [List.append_nil]⟩, fun h => by cases h⟩, trivial⟩, rfl, rfl⟩
            · have hfin : scan l[k] out out.length = j := by
                rw [← hsc]
                rcases Nat.eq_zero_or_pos j with h0 | h0
                · subst h0; rfl
                · obtain ⟨i, rfl⟩ : ∃ i, j = i + 1 := ⟨j - 1, by omega⟩
                  have hlt3 : i < out.length := by omega
                  rw [cond_and] at hc2
                  have e : out.getD i dmsg = out[i] := by simp [List.getD_eq_getElem?_getD, hlt3]
                  have h2 : l[k].less out[i] = false := by
                    rw [← e]
                    simpa using hc2
                  rw [scan, List.getElem?_eq_getElem hlt3]
                  simp [h2]
              refine ⟨_, _, insert_ok (Ml out) [l[k].L] j (by omega) (by show (Ml out).length ≤ _; omega) (by simp) (by simp), ?_⟩
              have hfinal : ins (Ml out) [l[k].L] j = Ml (sortL (l.take (k + 1))) := by rw [hnext, sortStep, if_pos hw, hfin]; simp [ins, ins', Ml, List.map_take, List.map_drop]
              have hlen2 : (Ml out).length + ([l[k].L] : List (List L)).length = (Ml (sortL (l.take (k + 1)))).length := by
                rw [← hfinal]
                simp only [ins, ins', List.length_append, List.length_take, List.length_drop]
                omega
              refine ⟨(k + 1, true), ⟨hlt, ?_⟩, by show l.length - (k + 1) < l.length - k; omega, ?_⟩
              · have h1 : (sortL (l.take (k + 1))).length = (Ml out).length + 1 := by rw [← Ml_length, ← hlen2]; rfl
                cases hx : sortL (l.take (k + 1)) with
                | nil => rw [hx] at h1; simp at h1
                | cons a t => rfl
              refine ⟨⟨rfl, rfl⟩, ⟨⟨rfl, rfl, rfl, hlen2⟩, L.le_refl _, L.le_refl _, L.le_of_eq (by rw [hwk]), trivial⟩, ⟨⟨rfl, ⟨[], by rw [List.append_nil]; exact hfinal⟩, fun h => by cases h⟩, trivial⟩, rfl, rfl⟩
      · have hge : k = l.length := by
          have : ¬ ((k : Int) < l.length) := by simpa using hc
          omega
        rw [hge, List.take_length] at hO
        refine ⟨⟨⟨Ml (sortL (l.take k)), ⟨rfl, false, rfl⟩, by show 0 + (Ml (sortL (l.take k))).length ≤ (Ml (sortL (l.take k))).length; omega, ?_⟩, trivial⟩, trivial, rfl, rfl⟩
        rw [hge, List.take_length, List.drop_zero, List.take_length]
        exact L.le_refl _

set_option maxHeartbeats 2000000 in
theorem sortNil_ok (l : List Msg) (hl : l.length ≤ 1000000) (h0 : sortL l = []) : MM 21 [] [Ms l] [] (.d (.l .nil)) := by
  refine gb21 [] [] rfl rfl fun hb => ?_
  refine ⟨Nat × Bool, fun p : Nat × Bool => (match p.2 with | false => (⟨[(2, .d (.l .nil)), (6, Ms l), (7, .int l.length), (8, .int p.1)], ⟨[], [], 950000, 0⟩⟩ : ASt) | true => ⟨[(2, .msl 950000 7 0 (Ml (sortL (l.take p.1))).length), (6, Ms l), (7, .int l.length), (8, .int p.1)], ⟨[(950000, .arr 7 (Ml (sortL (l.take p.1))) false)], [], 940000, 0⟩⟩), fun p => p.1 ≤ l.length ∧ p.2 = !(sortL (l.take p.1)).isEmpty, fun p => l.length - p.1, (0, false), ⟨Nat.zero_le _, rfl⟩, ?_, ?_⟩
  · exact ⟨⟨L.le_refl _, L.le_refl _, L.le_of_eq (by rw [Ml_length]), L.le_refl _, trivial⟩, trivial, rfl, rfl⟩
  · rintro ⟨k, b⟩ ⟨hk, hbe⟩ _
    have hk : k ≤ l.length := hk
    have hbe : b = !(sortL (l.take k)).isEmpty := hbe
    have hout := sortL_len l k
    obtain ⟨out, hO⟩ : ∃ out, out = sortL (l.take k) := ⟨_, rfl⟩
    rw [← hO] at hout hbe
    have hmo : (Ml out).length = out.length := Ml_length out
    have hwk : IntKind.i64.wrap ((k : Int) + 1) = ((k + 1 : Nat) : Int) := by rw [wrap64 (by omega) (by omega)]; omega
    cases b with
    | false =>
      have hout0 : out = [] := by
        cases out with
        | nil => rfl
        | cons a t => simp at hbe
      refine ⟨fun hc => ?_, fun hc => ?_⟩
      · have hlt : k < l.length := by simpa using hc
        refine ⟨l[k].L, ⟨k, rfl, by simp [Ml_get, hlt]⟩, ?_⟩
        have hnext := sortL_take l k hlt
        rw [← hO, hout0] at hnext
        refine ⟨_, idRight_ok l[k].ext l[k].n, ?_⟩
        refine ⟨fun hw => ?_, fun hw => ?_⟩
        · have hw : within l[k].n l[k].ext = false := by simpa using hw
          rw [sortStep, if_neg (by simp [hw])] at hnext
          refine ⟨(k + 1, false), ⟨hlt, by rw [hnext]; rfl⟩, by show l.length - (k + 1) < l.length - k; omega, ?_⟩
          exact ⟨⟨L.le_refl _, L.le_refl _, L.le_refl _, L.le_of_eq (by rw [hwk]), trivial⟩, trivial, rfl, rfl⟩
        · have hw : within l[k].n l[k].ext = true := by simpa using hw
          rw [sortStep, if_pos hw] at hnext
          have hnext : sortL (l.take (k + 1)) = [l[k]] := hnext
          refine ⟨Unit, fun _ => ⟨[(2, .d (.l .nil)), (4, .ref 949999 0), (5, .int 0), (6, Ms l), (7, .int l.length), (8, .int k)], ⟨[(949999, .cells l[k].C)], [], 940000, 0⟩⟩, fun _ => True, fun _ => 0, (), trivial, ?_, ?_⟩
          · exact ⟨⟨L.le_refl _, ⟨rfl, rfl⟩, L.le_refl _, L.le_refl _, L.le_refl _, L.le_refl _, trivial⟩, ⟨⟨L.le_refl _, L.le_refl _, L.le_refl _, L.le_refl _, L.le_refl _, L.le_refl _, L.le_refl _, trivial⟩, trivial⟩, rfl, rfl⟩
          · rintro _ _ _
            refine ⟨dmsg.L, fun h => absurd h (by decide), ?_⟩
            refine ⟨.bool false, fun h => absurd h (by decide), ?_⟩
            refine ⟨rfl, ?_⟩
            refine ⟨fun hc2 => absurd hc2 (by decide), fun _ => ?_⟩
            refine ⟨_, _, insert_nil [l[k].L] (by simp) (by simp), ?_⟩
            refine ⟨(k + 1, true), ⟨hlt, by rw [hnext]; rfl⟩, by show l.length - (k + 1) < l.length - k; omega, ?_⟩
            refine ⟨⟨rfl, rfl⟩, ⟨⟨rfl, rfl, rfl, ?_⟩, L.le_refl _, L.le_refl _, L.le_of_eq (by rw [hwk]), trivial⟩, ⟨⟨rfl, ⟨[], ?_⟩, fun h => by cases h⟩, trivial⟩, rfl, rfl⟩
            · rw [hnext]; rfl
            · rw [hnext]; rfl
      · have hge : k = l.length := by
          have : ¬ ((k : Int) < l.length) := by simpa using hc
          omega
        rw [hge, List.take_length] at hO
        rw [hout0] at hO
        exact ⟨⟨L.le_refl _, trivial⟩, trivial, rfl, rfl⟩


    | true =>
      refine ⟨fun hc => ?_, fun hc => ?_⟩
      · have hlt : k < l.length := by simpa using hc
        refine ⟨l[k].L, ⟨k, rfl, by simp [Ml_get, hlt]⟩, ?_⟩
        have hnext := sortL_take l k hlt
        rw [← hO] at hnext
        refine ⟨_, idRight_ok l[k].ext l[k].n, ?_⟩
        refine ⟨fun hw => ?_, fun hw => ?_⟩
        · have hw : within l[k].n l[k].ext = false := by simpa using hw
          rw [sortStep, if_neg (by simp [hw])] at hnext
          refine ⟨(k + 1, true), ⟨hlt, by rw [hnext]; exact hbe⟩, by show l.length - (k + 1) < l.length - k; omega, ?_⟩
          exact ⟨⟨⟨rfl, rfl, rfl, by rw [hnext, hO]⟩, L.le_refl _, L.le_refl _, L.le_of_eq (by rw [hwk]), trivial⟩, ⟨⟨rfl, ⟨[], by rw [hnext, hO, List.append_nil]⟩, fun h => by cases h⟩, trivial⟩, rfl, rfl⟩
        · have hw : within l[k].n l[k].ext = true := by simpa using hw
          refine ⟨Nat, fun j => ⟨[(2, .msl 950000 7 0 (Ml out).length), (4, .ref 939999 0), (5, .int j), (6, Ms l), (7, .int l.length), (8, .int k)], ⟨[(939999, .cells l[k].C), (950000, .arr 7 (Ml out) false)], [], 930000, 0⟩⟩, fun j => j ≤ out.length ∧ scan l[k] out j = scan l[k] out out.length, fun j => j, out.length, ⟨Nat.le_refl _, rfl⟩, ?_, ?_⟩
          · exact ⟨⟨⟨rfl, rfl, rfl, by rw [hO]⟩, ⟨rfl, rfl⟩, L.le_of_eq (by rw [← hO, hmo]), L.le_refl _, L.le_refl _, L.le_refl _, trivial⟩, ⟨⟨L.le_refl _, L.le_refl _, L.le_refl _, L.le_refl _, L.le_refl _, L.le_refl _, L.le_refl _, trivial⟩, ⟨rfl, ⟨[], by rw [hO, List.append_nil]⟩, fun h => by cases h⟩, trivial⟩, rfl, rfl⟩
          · rintro j ⟨hj, hsc⟩ _
            have hw1 : 0 < j → IntKind.i64.wrap ((j : Int) - 1) = ((j - 1 : Nat) : Int) := fun h => by rw [wrap64 (by omega) (by omega)]; omega
            refine ⟨j - 1, fun hg => ⟨?_, ?_⟩, ?_⟩
            · have hg : 0 < j := by simpa using hg
              exact hw1 hg
            · have hg : 0 < j := by simpa using hg
              show j - 1 < (Ml out).length
              omega
            refine ⟨(out.getD (j - 1) dmsg).L, fun hg => ?_, ?_⟩
            · have hg : 0 < j := by simpa using hg
              have : j - 1 < out.length := by omega
              rw [Nat.zero_add]
              simp [Ml_get, this, List.getD_eq_getElem?_getD]
            refine ⟨_, fun _ => less_ok l[k] (out.getD (j - 1) dmsg), ?_⟩
            refine ⟨rfl, ?_⟩
            refine ⟨fun hc2 => ?_, fun hc2 => ?_⟩
            · have hc2 : 0 < j ∧ l[k].less (out.getD (j - 1) dmsg) = true := by
                rw [cond_and] at hc2
                simpa using hc2
              have hlt3 : j - 1 < out.length := by omega
              refine ⟨j - 1, ⟨by omega, ?_⟩, by show j - 1 < j; omega, ?_⟩
              · rw [← hsc]
                obtain ⟨i, rfl⟩ : ∃ i, j = i + 1 := ⟨j - 1, by omega⟩
                have h2 := hc2.2
                simp only [Nat.add_sub_cancel] at h2 hlt3 ⊢
                rw [scan, List.getElem?_eq_getElem hlt3]
                have e : out.getD i dmsg = out[i] := by simp [List.getD_eq_getElem?_getD, hlt3]
                rw [e] at h2
                simp [h2]
              · exact ⟨⟨⟨rfl, rfl, rfl, rfl⟩, ⟨rfl, rfl⟩, L.le_of_eq (by rw [hw1 hc2.1]), L.le_refl _, L.le_refl _, L.le_refl _, trivial⟩, ⟨⟨L.le_refl _, L.le_refl _, L.le_refl _, L.le_refl _, L.le_refl _, L.le_refl _, L.le_refl _, trivial⟩, ⟨rfl, ⟨[], by rw [List.append_nil]⟩, fun h => by cases h⟩, trivial⟩, rfl, rfl⟩
            · have hfin : scan l[k] out out.length = j := by
                rw [← hsc]
                rcases Nat.eq_zero_or_pos j with h0 | h0
                · subst h0; rfl
                · obtain ⟨i, rfl⟩ : ∃ i, j = i + 1 := ⟨j - 1, by omega⟩
                  have hlt3 : i < out.length := by omega
                  rw [cond_and] at hc2
                  have e : out.getD i dmsg = out[i] := by simp [List.getD_eq_getElem?_getD, hlt3]
                  have h2 : l[k].less out[i] = false := by
                    rw [← e]
                    simpa using hc2
                  rw [scan, List.getElem?_eq_getElem hlt3]
                  simp [h2]
              refine ⟨_, _, insert_ok (Ml out) [l[k].L] j (by omega) (by show (Ml out).length ≤ _; omega) (by simp) (by simp), ?_⟩
              have hfinal : ins (Ml out) [l[k].L] j = Ml (sortL (l.take (k + 1))) := by rw [hnext, sortStep, if_pos hw, hfin]; simp [ins, ins', Ml, List.map_take, List.map_drop]
              have hlen2 : (Ml out).length + ([l[k].L] : List (List L)).length = (Ml (sortL (l.take (k + 1)))).length := by
                rw [← hfinal]
                simp only [ins, ins', List.length_append, List.length_take, List.length_drop]
                omega
              refine ⟨(k + 1, true), ⟨hlt, ?_⟩, by show l.length - (k + 1) < l.length - k; omega, ?_⟩
              · have h1 : (sortL (l.take (k + 1))).length = (Ml out).length + 1 := by rw [← Ml_length, ← hlen2]; rfl
                cases hx : sortL (l.take (k + 1)) with
                | nil => rw [hx] at h1; simp at h1
                | cons a t => rfl
              refine ⟨⟨rfl, rfl⟩, ⟨⟨rfl, rfl, rfl, hlen2⟩, L.le_refl _, L.le_refl _, L.le_of_eq (by rw [hwk]), trivial⟩, ⟨⟨rfl, ⟨[], by rw [List.append_nil]; exact hfinal⟩, fun h => by cases h⟩, trivial⟩, rfl, rfl⟩
      · have hge : k = l.length := by
          have : ¬ ((k : Int) < l.length) := by simpa using hc
          omega
        rw [hge, List.take_length] at hO
        rw [h0] at hO
        rw [hO] at hbe
        simp at hbe

set_option maxHeartbeats 2000000 in
theorem sortN_ok (l : List Msg) (hl : l.length ≤ 1000000) (hne : sortL l ≠ []) : MM 21 [] [Ms l] [(100, .arr 7 (Ml (sortL l)) false)] (.msl 100 7 0 (Ml (sortL l)).length) := by
  refine gb21 [] [] rfl rfl fun hb => ?_
  refine ⟨Nat × Bool, fun p : Nat × Bool => (match p.2 with | false => (⟨[(2, .d (.l .nil)), (6, Ms l), (7, .int l.length), (8, .int p.1)], ⟨[], [], 950000, 0⟩⟩ : ASt) | true => ⟨[(2, .msl 950000 7 0 (Ml (sortL (l.take p.1))).length), (6, Ms l), (7, .int l.length), (8, .int p.1)], ⟨[(950000, .arr 7 (Ml (sortL (l.take p.1))) false)], [], 940000, 0⟩⟩), fun p => p.1 ≤ l.length ∧ p.2 = !(sortL (l.take p.1)).isEmpty, fun p => l.length - p.1, (0, false), ⟨Nat.zero_le _, rfl⟩, ?_, ?_⟩
  · exact ⟨⟨L.le_refl _, L.le_refl _, L.le_of_eq (by rw [Ml_length]), L.le_refl _, trivial⟩, trivial, rfl, rfl⟩
  · rintro ⟨k, b⟩ ⟨hk, hbe⟩ _
    have hk : k ≤ l.length := hk
    have hbe : b = !(sortL (l.take k)).isEmpty := hbe
    have hout := sortL_len l k
    obtain ⟨out, hO⟩ : ∃ out, out = sortL (l.take k) := ⟨_, rfl⟩
    rw [← hO] at hout hbe
    have hmo : (Ml out).length = out.length := Ml_length out
    have hwk : IntKind.i64.wrap ((k : Int) + 1) = ((k + 1 : Nat) : Int) := by rw [wrap64 (by omega) (by omega)]; omega
    cases b with
    | false =>
      have hout0 : out = [] := by
        cases out with
        | nil => rfl
        | cons a t => simp at hbe
      refine ⟨fun hc => ?_, fun hc => ?_⟩
      · have hlt : k < l.length := by simpa using hc
        refine ⟨l[k].L, ⟨k, rfl, by simp [Ml_get, hlt]⟩, ?_⟩
        have hnext := sortL_take l k hlt
        rw [← hO, hout0] at hnext
        refine ⟨_, idRight_ok l[k].ext l[k].n, ?_⟩
        refine ⟨fun hw => ?_, fun hw => ?_⟩
        · have hw : within l[k].n l[k].ext = false := by simpa using hw
          rw [sortStep, if_neg (by simp [hw])] at hnext
          refine ⟨(k + 1, false), ⟨hlt, by rw [hnext]; rfl⟩, by show l.length - (k + 1) < l.length - k; omega, ?_⟩
          exact ⟨⟨L.le_refl _, L.le_refl _, L.le_refl _, L.le_of_eq (by rw [hwk]), trivial⟩, trivial, rfl, rfl⟩
        · have hw : within l[k].n l[k].ext = true := by simpa using hw
          rw [sortStep, if_pos hw] at hnext
          have hnext : sortL (l.take (k + 1)) = [l[k]] := hnext
          refine ⟨Unit, fun _ => ⟨[(2, .d (.l .nil)), (4, .ref 949999 0), (5, .int 0), (6, Ms l), (7, .int l.length), (8, .int k)], ⟨[(949999, .cells l[k].C)], [], 940000, 0⟩⟩, fun _ => True, fun _ => 0, (), trivial, ?_, ?_⟩
          · exact ⟨⟨L.le_refl _, ⟨rfl, rfl⟩, L.le_refl _, L.le_refl _, L.le_refl _, L.le_refl _, trivial⟩, ⟨⟨L.le_refl _, L.le_refl _, L.le_refl _, L.le_refl _, L.le_refl _, L.le_refl _, L.le_refl _, trivial⟩, trivial⟩, rfl, rfl⟩
          · rintro _ _ _
            refine ⟨dmsg.L, fun h => absurd h (by decide), ?_⟩
            refine ⟨.bool false, fun h => absurd h (by decide), ?_⟩
            refine ⟨rfl, ?_⟩
            refine ⟨fun hc2 => absurd hc2 (by decide), fun _ => ?_⟩
            refine ⟨_, _, insert_nil [l[k].L] (by simp) (by simp), ?_⟩
            refine ⟨(k + 1, true), ⟨hlt, by rw [hnext]; rfl⟩, by show l.length - (k + 1) < l.length - k; omega, ?_⟩
            refine ⟨⟨rfl, rfl⟩, ⟨⟨rfl, rfl, rfl, ?_⟩, L.le_refl _, L.le_refl _, L.le_of_eq (by rw [hwk]), trivial⟩, ⟨⟨rfl, ⟨[], ?_⟩, fun h => by cases h⟩, trivial⟩, rfl, rfl⟩
            · rw [hnext]; rfl
            · rw [hnext]; rfl
      · have hge : k = l.length := by
          have : ¬ ((k : Int) < l.length) := by simpa using hc
          omega
        rw [hge, List.take_length] at hO
        rw [hout0] at hO
        exact absurd hO.symm hne


    | true =>
      refine ⟨fun hc => ?_, fun hc => ?_⟩
      · have hlt : k < l.length := by simpa using hc
        refine ⟨l[k].L, ⟨k, rfl, by simp [Ml_get, hlt]⟩, ?_⟩
        have hnext := sortL_take l k hlt
        rw [← hO] at hnext
        refine ⟨_, idRight_ok l[k].ext l[k].n, ?_⟩
        refine ⟨fun hw => ?_, fun hw => ?_⟩
        · have hw : within l[k].n l[k].ext = false := by simpa using hw
          rw [sortStep, if_neg (by simp [hw])] at hnext
          refine ⟨(k + 1, true), ⟨hlt, by rw [hnext]; exact hbe⟩, by show l.length - (k + 1) < l.length - k; omega, ?_⟩
          exact ⟨⟨⟨rfl, rfl, rfl, by rw [hnext, hO]⟩, L.le_refl _, L.le_refl _, L.le_of_eq (by rw [hwk]), trivial⟩, ⟨⟨rfl, ⟨[], by rw [hnext, hO, List.append_nil]⟩, fun h => by cases h⟩, trivial⟩, rfl, rfl⟩
        · have hw : within l[k].n l[k].ext = true := by simpa using hw
          refine ⟨Nat, fun j => ⟨[(2, .msl 950000 7 0 (Ml out).length), (4, .ref 939999 0), (5, .int j), (6, Ms l), (7, .int l.length), (8, .int k)], ⟨[(939999, .cells l[k].C), (950000, .arr 7 (Ml out) false)], [], 930000, 0⟩⟩, fun j => j ≤ out.length ∧ scan l[k] out j = scan l[k] out out.length, fun j => j, out.length, ⟨Nat.le_refl _, rfl⟩, ?_, ?_⟩
          · exact ⟨⟨⟨rfl, rfl, rfl, by rw [hO]⟩, ⟨rfl, rfl⟩, L.le_of_eq (by rw [← hO, hmo]), L.le_refl _, L.le_refl _, L.le_refl _, trivial⟩, ⟨⟨L.le_refl _, L.le_refl _, L.le_refl _, L.le_refl _, L.le_refl _, L.le_refl _, L.le_refl _, trivial⟩, ⟨rfl, ⟨[], by rw [hO, List.append_nil]⟩, fun h => by cases h⟩, trivial⟩, rfl, rfl⟩
          · rintro j ⟨hj, hsc⟩ _
            have hw1 : 0 < j → IntKind.i64.wrap ((j : Int) - 1) = ((j - 1 : Nat) : Int) := fun h => by rw [wrap64 (by omega) (by omega)]; omega
            refine ⟨j - 1, fun hg => ⟨?_, ?_⟩, ?_⟩
            · have hg : 0 < j := by simpa using hg
              exact hw1 hg
            · have hg : 0 < j := by simpa using hg
              show j - 1 < (Ml out).length
              omega
            refine ⟨(out.getD (j - 1) dmsg).L, fun hg => ?_, ?_⟩
            · have hg : 0 < j := by simpa using hg
              have : j - 1 < out.length := by omega
              rw [Nat.zero_add]
              simp [Ml_get, this, List.getD_eq_getElem?_getD]
            refine ⟨_, fun _ => less_ok l[k] (out.getD (j - 1) dmsg), ?_⟩
            refine ⟨rfl, ?_⟩
            refine ⟨fun hc2 => ?_, fun hc2 => ?_⟩
            · have hc2 : 0 < j ∧ l[k].less (out.getD (j - 1) dmsg) = true := by
                rw [cond_and] at hc2
                simpa using hc2
              have hlt3 : j - 1 < out.length := by omega
              refine ⟨j - 1, ⟨by omega, ?_⟩, by show j - 1 < j; omega, ?_⟩
              · rw [← hsc]
                obtain ⟨i, rfl⟩ : ∃ i, j = i + 1 := ⟨j - 1, by omega⟩
                have h2 := hc2.2
                simp only [Nat.add_sub_cancel] at h2 hlt3 ⊢
                rw [scan, List.getElem?_eq_getElem hlt3]
                have e : out.getD i dmsg = out[i] := by simp [List.getD_eq_getElem?_getD, hlt3]
                rw [e] at h2
                simp [h2]
              · exact ⟨⟨⟨rfl, rfl, rfl, rfl⟩, ⟨rfl, rfl⟩, L.le_of_eq (by rw [hw1 hc2.1]), L.le_refl _, L.le_refl _, L.le_refl _, trivial⟩, ⟨⟨L.le_refl _, L.le_refl _, L.le_refl _, L.le_refl _, L.le_refl _, L.le_refl _, L.le_refl _, trivial⟩, ⟨rfl, ⟨[], by rw [List.append_nil]⟩, fun h => by cases h⟩, trivial⟩, rfl, rfl⟩
            · have hfin : scan l[k] out out.length = j := by
                rw [← hsc]
                rcases Nat.eq_zero_or_pos j with h0 | h0
                · subst h0; rfl
                · obtain ⟨i, rfl⟩ : ∃ i, j = i + 1 := ⟨j - 1, by omega⟩
                  have hlt3 : i < out.length := by omega
                  rw [cond_and] at hc2
                  have e : out.getD i dmsg = out[i] := by simp [List.getD_eq_getElem?_getD, hlt3]
                  have h2 : l[k].less out[i] = false := by
                    rw [← e]
                    simpa using hc2
                  rw [scan, List.getElem?_eq_getElem hlt3]
                  simp [h2]
              refine ⟨_, _, insert_ok (Ml out) [l[k].L] j (by omega) (by show (Ml out).length ≤ _; omega) (by simp) (by simp), ?_⟩
              have hfinal : ins (Ml out) [l[k].L] j = Ml (sortL (l.take (k + 1))) := by rw [hnext, sortStep, if_pos hw, hfin]; simp [ins, ins', Ml, List.map_take, List.map_drop]
              have hlen2 : (Ml out).length + ([l[k].L] : List (List L)).length = (Ml (sortL (l.take (k + 1)))).length := by
                rw [← hfinal]
                simp only [ins, ins', List.length_append, List.length_take, List.length_drop]
                omega
              refine ⟨(k + 1, true), ⟨hlt, ?_⟩, by show l.length - (k + 1) < l.length - k; omega, ?_⟩
              · have h1 : (sortL (l.take (k + 1))).length = (Ml out).length + 1 := by rw [← Ml_length, ← hlen2]; rfl
                cases hx : sortL (l.take (k + 1)) with
                | nil => rw [hx] at h1; simp at h1
                | cons a t => rfl
              refine ⟨⟨rfl, rfl⟩, ⟨⟨rfl, rfl, rfl, hlen2⟩, L.le_refl _, L.le_refl _, L.le_of_eq (by rw [hwk]), trivial⟩, ⟨⟨rfl, ⟨[], by rw [List.append_nil]; exact hfinal⟩, fun h => by cases h⟩, trivial⟩, rfl, rfl⟩
      · have hge : k = l.length := by
          have : ¬ ((k : Int) < l.length) := by simpa using hc
          omega
        rw [hge, List.take_length] at hO
        refine ⟨⟨rfl, rfl⟩, ⟨⟨rfl, rfl, rfl, ?_⟩, trivial⟩, ⟨⟨rfl, ⟨[], ?_⟩, fun h => by cases h⟩, trivial⟩, rfl, rfl⟩
        · rw [hge, List.take_length]
        · rw [hge, List.take_length, List.append_nil]

set_option maxHeartbeats 2000000 in
theorem sortA_ok (l : List Msg) (hl : l.length ≤ 1000000) (f : Bool) : MM 21 [(N0, .arr 7 (Ml l) f)] [.msl N0 7 0 (Ml l).length] [] (Ms (sortL l)) := by
  refine gb21 [] [] rfl rfl fun hb => ?_
  refine ⟨Nat × Bool, fun p : Nat × Bool => (match p.2 with | false => (⟨[(2, .d (.l .nil)), (6, .msl N0 7 0 (Ml l).length), (7, .int l.length), (8, .int p.1)], ⟨[(N0, .arr 7 (Ml l) f)], [], 950000, 0⟩⟩ : ASt) | true => ⟨[(2, .msl 950000 7 0 (Ml (sortL (l.take p.1))).length), (6, .msl N0 7 0 (Ml l).length), (7, .int l.length), (8, .int p.1)], ⟨[(950000, .arr 7 (Ml (sortL (l.take p.1))) false), (N0, .arr 7 (Ml l) f)], [], 940000, 0⟩⟩), fun p => p.1 ≤ l.length ∧ p.2 = !(sortL (l.take p.1)).isEmpty, fun p => l.length - p.1, (0, false), ⟨Nat.zero_le _, rfl⟩, ?_, ?_⟩
  · exact ⟨⟨L.le_refl _, ⟨rfl, rfl, rfl, rfl⟩, L.le_of_eq (by rw [Ml_length]), L.le_refl _, trivial⟩, ⟨⟨rfl, ⟨[], by simp⟩, fun h => ⟨h, rfl⟩⟩, trivial⟩, rfl, rfl⟩
  · rintro ⟨k, b⟩ ⟨hk, hbe⟩ _
    have hk : k ≤ l.length := hk
    have hbe : b = !(sortL (l.take k)).isEmpty := hbe
    have hout := sortL_len l k
    obtain ⟨out, hO⟩ : ∃ out, out = sortL (l.take k) := ⟨_, rfl⟩
    rw [← hO] at hout hbe
    have hmo : (Ml out).length = out.length := Ml_length out
    have hwk : IntKind.i64.wrap ((k : Int) + 1) = ((k + 1 : Nat) : Int) := by rw [wrap64 (by omega) (by omega)]; omega
    cases b with
    | false =>
      have hout0 : out = [] := by
        cases out with
        | nil => rfl
        | cons a t => simp at hbe
      refine ⟨fun hc => ?_, fun hc => ?_⟩
      · have hlt : k < l.length := by simpa using hc
        refine ⟨k, ⟨rfl, by rw [Ml_length]; exact hlt⟩, ?_⟩
        refine ⟨l[k].L, by rw [Nat.zero_add]; simp [Ml_get, hlt], ?_⟩
        have hnext := sortL_take l k hlt
        rw [← hO, hout0] at hnext
        refine ⟨_, idRight_ok l[k].ext l[k].n, ?_⟩
        refine ⟨fun hw => ?_, fun hw => ?_⟩
        · have hw : within l[k].n l[k].ext = false := by simpa using hw
          rw [sortStep, if_neg (by simp [hw])] at hnext
          refine ⟨(k + 1, false), ⟨hlt, by rw [hnext]; rfl⟩, by show l.length - (k + 1) < l.length - k; omega, ?_⟩
          exact ⟨⟨L.le_refl _, ⟨rfl, rfl, rfl, rfl⟩, L.le_refl _, L.le_of_eq (by rw [hwk]), trivial⟩, ⟨⟨rfl, ⟨[], by simp⟩, fun h => ⟨h, rfl⟩⟩, trivial⟩, rfl, rfl⟩
        · have hw : within l[k].n l[k].ext = true := by simpa using hw
          rw [sortStep, if_pos hw] at hnext
          have hnext : sortL (l.take (k + 1)) = [l[k]] := hnext
          refine ⟨Unit, fun _ => ⟨[(2, .d (.l .nil)), (4, .ref 949999 0), (5, .int 0), (6, .msl N0 7 0 (Ml l).length), (7, .int l.length), (8, .int k)], ⟨[(949999, .cells l[k].C), (N0, .arr 7 (Ml l) f)], [], 940000, 0⟩⟩, fun _ => True, fun _ => 0, (), trivial, ?_, ?_⟩
          · exact ⟨⟨L.le_refl _, ⟨rfl, rfl⟩, L.le_refl _, ⟨rfl, rfl, rfl, rfl⟩, L.le_refl _, L.le_refl _, trivial⟩, ⟨⟨L.le_refl _, L.le_refl _, L.le_refl _, L.le_refl _, L.le_refl _, L.le_refl _, L.le_refl _, trivial⟩, ⟨rfl, ⟨[], by simp⟩, fun h => ⟨h, rfl⟩⟩, trivial⟩, rfl, rfl⟩
          · rintro _ _ _
            refine ⟨dmsg.L, fun h => absurd h (by decide), ?_⟩
            refine ⟨.bool false, fun h => absurd h (by decide), ?_⟩
            refine ⟨rfl, ?_⟩
            refine ⟨fun hc2 => absurd hc2 (by decide), fun _ => ?_⟩
            refine ⟨_, _, insert_nil [l[k].L] (by simp) (by simp), ?_⟩
            refine ⟨(k + 1, true), ⟨hlt, by rw [hnext]; rfl⟩, by show l.length - (k + 1) < l.length - k; omega, ?_⟩
            refine ⟨⟨rfl, rfl⟩, ⟨⟨rfl, rfl, rfl, ?_⟩, ⟨rfl, rfl, rfl, rfl⟩, L.le_refl _, L.le_of_eq (by rw [hwk]), trivial⟩, ⟨⟨rfl, ⟨[], ?_⟩, fun h => by cases h⟩, ⟨rfl, ⟨[], by simp⟩, fun h => ⟨h, rfl⟩⟩, trivial⟩, rfl, rfl⟩
            · rw [hnext]; rfl
            · rw [hnext]; rfl
      · have hge : k = l.length := by
          have : ¬ ((k : Int) < l.length) := by simpa using hc
          omega
        rw [hge, List.take_length] at hO
        rw [hout0] at hO
        refine ⟨⟨?_, trivial⟩, trivial, rfl, rfl⟩
        rw [← hO]
        exact L.le_nil 7
    | true =>
      refine ⟨fun hc => ?_, fun hc => ?_⟩
      · have hlt : k < l.length := by simpa using hc
        refine ⟨k, ⟨rfl, by rw [Ml_length]; exact hlt⟩, ?_⟩
        refine ⟨l[k].L, by rw [Nat.zero_add]; simp [Ml_get, hlt], ?_⟩
        have hnext := sortL_take l k hlt
        rw [← hO] at hnext
        refine ⟨_, idRight_ok l[k].ext l[k].n, ?_⟩
        refine ⟨fun hw => ?_, fun hw => ?_⟩
        · have hw : within l[k].n l[k].ext = false := by simpa using hw
          rw [sortStep, if_neg (by simp [hw])] at hnext
          refine ⟨(k + 1, true), ⟨hlt, by rw [hnext]; exact hbe⟩, by show l.length - (k + 1) < l.length - k; omega, ?_⟩
          exact ⟨⟨⟨rfl, rfl, rfl, by rw [hnext, hO]⟩, ⟨rfl, rfl, rfl, rfl⟩, L.le_refl _, L.le_of_eq (by rw [hwk]), trivial⟩, ⟨⟨rfl, ⟨[], by rw [hnext, hO, List.append_nil]⟩, fun h => by cases h⟩, ⟨rfl, ⟨[], by simp⟩, fun h => ⟨h, rfl⟩⟩, trivial⟩, rfl, rfl⟩
        · have hw : within l[k].n l[k].ext = true := by simpa using hw
          refine ⟨Nat, fun j => ⟨[(2, .msl 950000 7 0 (Ml out).length), (4, .ref 939999 0), (5, .int j), (6, .msl N0 7 0 (Ml l).length), (7, .int l.length), (8, .int k)], ⟨[(939999, .cells l[k].C), (950000, .arr 7 (Ml out) false), (N0, .arr 7 (Ml l) f)], [], 930000, 0⟩⟩, fun j => j ≤ out.length ∧ scan l[k] out j = scan l[k] out out.length, fun j => j, out.length, ⟨Nat.le_refl _, rfl⟩, ?_, ?_⟩
          · exact ⟨⟨⟨rfl, rfl, rfl, by rw [hO]⟩, ⟨rfl, rfl⟩, L.le_of_eq (by rw [← hO, hmo]), ⟨rfl, rfl, rfl, rfl⟩, L.le_refl _, L.le_refl _, trivial⟩, ⟨⟨L.le_refl _, L.le_refl _, L.le_refl _, L.le_refl _, L.le_refl _, L.le_refl _, L.le_refl _, trivial⟩, ⟨rfl, ⟨[], by rw [hO, List.append_nil]⟩, fun h => by cases h⟩, ⟨rfl, ⟨[], by simp⟩, fun h => ⟨h, rfl⟩⟩, trivial⟩, rfl, rfl⟩
          · rintro j ⟨hj, hsc⟩ _
            have hw1 : 0 < j → IntKind.i64.wrap ((j : Int) - 1) = ((j - 1 : Nat) : Int) := fun h => by rw [wrap64 (by omega) (by omega)]; omega
            refine ⟨j - 1, fun hg => ⟨?_, ?_⟩, ?_⟩
            · have hg : 0 < j := by simpa using hg
              exact hw1 hg
            · have hg : 0 < j := by simpa using hg
              show j - 1 < (Ml out).length
              omega
            refine ⟨(out.getD (j - 1) dmsg).L, fun hg => ?_, ?_⟩
            · have hg : 0 < j := by simpa using hg
              have : j - 1 < out.length := by omega
              rw [Nat.zero_add]
              simp [Ml_get, this, List.getD_eq_getElem?_getD]
            refine ⟨_, fun _ => less_ok l[k] (out.getD (j - 1) dmsg), ?_⟩
            refine ⟨rfl, ?_⟩
            refine ⟨fun hc2 => ?_, fun hc2 => ?_⟩
            · have hc2 : 0 < j ∧ l[k].less (out.getD (j - 1) dmsg) = true := by
                rw [cond_and] at hc2
                simpa using hc2
              have hlt3 : j - 1 < out.length := by omega
              refine ⟨j - 1, ⟨by omega, ?_⟩, by show j - 1 < j; omega, ?_⟩
              · rw [← hsc]
                obtain ⟨i, rfl⟩ : ∃ i, j = i + 1 := ⟨j - 1, by omega⟩
                have h2 := hc2.2
                simp only [Nat.add_sub_cancel] at h2 hlt3 ⊢
                rw [scan, List.getElem?_eq_getElem hlt3]
                have e : out.getD i dmsg = out[i] := by simp [List.getD_eq_getElem?_getD, hlt3]
                rw [e] at h2
                simp [h2]
              · exact ⟨⟨⟨rfl, rfl, rfl, rfl⟩, ⟨rfl, rfl⟩, L.le_of_eq (by rw [hw1 hc2.1]), ⟨rfl, rfl, rfl, rfl⟩, L.le_refl _, L.le_refl _, trivial⟩, ⟨⟨L.le_refl _, L.le_refl _, L.le_refl _, L.le_refl _, L.le_refl _, L.le_refl _, L.le_refl _, trivial⟩, ⟨rfl, ⟨[], by rw [List.append_nil]⟩, fun h => by cases h⟩, ⟨rfl, ⟨[], by simp⟩, fun h => ⟨h, rfl⟩⟩, trivial⟩, rfl, rfl⟩
            · have hfin : scan l[k] out out.length = j := by
                rw [← hsc]
                rcases Nat.eq_zero_or_pos j with h0 | h0
                · subst h0; rfl
                · obtain ⟨i, rfl⟩ : ∃ i, j = i + 1 := ⟨j - 1, by omega⟩
                  have hlt3 : i < out.length := by omega
                  rw [cond_and] at hc2
                  have e : out.getD i dmsg = out[i] := by simp [List.getD_eq_getElem?_getD, hlt3]
                  have h2 : l[k].less out[i] = false := by
                    rw [← e]
                    simpa using hc2
                  rw [scan, List.getElem?_eq_getElem hlt3]
                  simp [h2]
              refine ⟨_, _, insert_ok (Ml out) [l[k].L] j (by omega) (by show (Ml out).length ≤ _; omega) (by simp) (by simp), ?_⟩
              have hfinal : ins (Ml out) [l[k].L] j = Ml (sortL (l.take (k + 1))) := by rw [hnext, sortStep, if_pos hw, hfin]; simp [ins, ins', Ml, List.map_take, List.map_drop]
              have hlen2 : (Ml out).length + ([l[k].L] : List (List L)).length = (Ml (sortL (l.take (k + 1)))).length := by
                rw [← hfinal]
                simp only [ins, ins', List.length_append, List.length_take, List.length_drop]
                omega
              refine ⟨(k + 1, true), ⟨hlt, ?_⟩, by show l.length - (k + 1) < l.length - k; omega, ?_⟩
              · have h1 : (sortL (l.take (k + 1))).length = (Ml out).length + 1 := by rw [← Ml_length, ← hlen2]; rfl
                cases hx : sortL (l.take (k + 1)) with
                | nil => rw [hx] at h1; simp at h1
                | cons a t => rfl
              refine ⟨⟨rfl, rfl⟩, ⟨⟨rfl, rfl, rfl, hlen2⟩, ⟨rfl, rfl, rfl, rfl⟩, L.le_refl _, L.le_of_eq (by rw [hwk]), trivial⟩, ⟨⟨rfl, ⟨[], by rw [List.append_nil]; exact hfinal⟩, fun h => by cases h⟩, ⟨rfl, ⟨[], by simp⟩, fun h => ⟨h, rfl⟩⟩, trivial⟩, rfl, rfl⟩
      · have hge : k = l.length := by
          have : ¬ ((k : Int) < l.length) := by simpa using hc
          omega
        rw [hge, List.take_length] at hO
        refine ⟨⟨⟨Ml (sortL (l.take k)), ⟨rfl, false, rfl⟩, by show 0 + (Ml (sortL (l.take k))).length ≤ (Ml (sortL (l.take k))).length; omega, ?_⟩, trivial⟩, trivial, rfl, rfl⟩
        rw [hge, List.take_length, List.drop_zero, List.take_length]
        exact L.le_refl _
end Go.Proofs.YtokomdenoegkgaaDoor
