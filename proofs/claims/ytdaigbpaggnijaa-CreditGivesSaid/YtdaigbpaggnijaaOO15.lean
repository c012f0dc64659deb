/-
  Layer 15: the law function CreditTells.
-/
import Derived.Test.YtdaigbpaggnijaaON15
set_option linter.unusedVariables false
set_option linter.unusedSimpArgs false
namespace Go.Proofs.Ytdaigbpaggnijaa
open Go Go.Proofs.Ytdaigbpaggnijaa.Abs

def Xl (l : List (Int × List Int)) : List (List L) := l.map fun x => [.int x.1, .sl 1 (Il x.2)]
theorem Xl_length (l : List (Int × List Int)) : (Xl l).length = l.length := by simp [Xl]
theorem Xl_get (l : List (Int × List Int)) (k : Nat) : (Xl l)[k]? = (l[k]?).map fun x => [.int x.1, .sl 1 (Il x.2)] := by simp [Xl]
theorem Il_append (a b : List Int) : Il (a ++ b) = Il a ++ Il b := by simp [Il]
theorem same_self (w : Int) (l : List Int) : M 11 [Dc w l, Dc w l] (.bool true) := by have := same_ok w l w l; simpa using this
theorem ints_self (l : List Int) : M 25 [Ds l, Ds l] (.bool true) := by have := ints_ok l l; simpa using this

set_option maxHeartbeats 2000000 in
set_option maxRecDepth 100000 in
theorem tells_ok (window : Int) (raw : List Int) (ow : Int) (ol : List Int) (how number : Int) (nums : List Int) (hw : In64 window) (hr : ∀ x ∈ raw, In64 x) (hhow : In64 how) (hnum : In64 number) :
    M 3 [.int window, Ds raw, Dc ow ol, .int how, .int number, Ds nums] (.bool true) := by
  refine go3 rfl rfl fun hb => ?_
  have hlen : ol.length ≤ 9223372036854775807 := by have := (hb.1 2 _ rfl).2.1.1; simpa [Il_length] using this
  have hlen2 : nums.length ≤ 9223372036854775807 := by have := (hb.1 5 _ rfl).1; simpa [Il_length] using this
  refine ⟨_, awake_ok, ?_⟩
  refine ⟨fun h => ?_, fun h => ?_⟩
  · exact ⟨⟨L.le_refl _, trivial⟩, trivial, rfl, rfl⟩
  have hol : ol.length ≤ 30 := by rw [Il_length] at h; simp at h; omega
  refine ⟨_, new_ok ow, ?_⟩
  refine ⟨_, refNew_ok ow, ?_⟩
  refine ⟨_, same_self _ [], ?_⟩
  refine ⟨fun h => ?_, fun h => ?_⟩
  · exfalso
    simp at h
  obtain ⟨w, ew⟩ : ∃ w, w = crW window := ⟨_, rfl⟩
  obtain ⟨l, el⟩ : ∃ l, l = crL (crW window) raw := ⟨_, rfl⟩
  have hR : right w l = true := by rw [ew, el]; exact crL_right window raw
  have hW : 1 ≤ w ∧ w ≤ 16 := by rw [ew]; exact crW_range window
  have hsm := sm_right hR
  have hll := right_bounds hR
  have cr := credit_ok window raw hw hr
  rw [← el, ← ew] at cr
  refine ⟨_, cr, ?_⟩
  refine ⟨_, refOwn_ok w l hsm, ?_⟩
  refine ⟨_, pick_ok how 2 hhow (by omega), ?_⟩
  have hnl : ∃ j : Nat, min ((Il nums).length : Int) 30 = (j : Int) ∧ j ≤ (Il nums).length ∧ (Il nums).take j = Il (nums.take j) := ⟨min nums.length 30, by rw [Il_length]; omega, by rw [Il_length]; omega, Il_take _ _⟩
  obtain ⟨jn, hjn1, hjn2, hjn3⟩ := hnl
  refine ⟨fun h => ?ga, fun h => ?gb⟩
  case' gb =>
    refine ⟨(by show ((Il l).length + (Il ol).length) * 8 ≤ _; rw [Il_length, Il_length]; omega), ?_⟩
  all_goals refine ⟨jn, ⟨hjn1, hjn2⟩, ?_⟩
  case' ga =>
    obtain ⟨xs, hxs, hxs2, hsx⟩ : ∃ xs : List (Int × List Int), Xl xs = [[.int w, .sl 1 (Il l)], [.int ow, .sl 1 (Il l)]] ∧ xs.length = 2 ∧ ∀ x ∈ xs, Sm x.2 := ⟨[(w, l), (ow, l)], rfl, rfl, by simp [hsm]⟩
  case' gb =>
    obtain ⟨xs, hxs, hxs2, hsx⟩ : ∃ xs : List (Int × List Int), Xl xs = [[.int w, .sl 1 (Il l)], [.int w, .sl 1 (Il l ++ Il ol)]] ∧ xs.length = 2 ∧ ∀ x ∈ xs, Sm x.2 := ⟨[(w, l), (w, l ++ ol)], by simp [Xl, Il_append], rfl, by
      have : Sm (l ++ ol) := by show _ ≤ _; simp; omega
      intro x hx
      simp only [List.mem_cons, List.not_mem_nil, or_false] at hx
      rcases hx with rfl | rfl
      · exact hsm
      · exact this⟩
  all_goals
    refine ⟨Nat, fun k => ⟨[(4, .int number), (13, .bool true), (20, Ds (nums.take jn)), (92, .d (.sl 2 (Xl xs))), (93, .int 2), (94, .int k)], ⟨[], [], 900000, 0⟩⟩, fun k => k ≤ 2, fun k => 2 - k, 0, Nat.zero_le _, ?_, ?_⟩
    · exact ⟨⟨L.le_refl _, L.le_refl _, L.le_of_eq (congrArg (L.sl 1) hjn3), L.le_of_eq (congrArg (L.sl 2) hxs.symm), L.le_refl _, L.le_refl _, trivial⟩, trivial, rfl, rfl⟩
    · intro k hk _
      have inc : IntKind.i64.wrap ((k : Int) + 1) = ((k + 1 : Nat) : Int) := by rw [wrap64 (by omega) (by omega)]; simp
      refine ⟨fun h => ?_, fun h => ?_⟩
      · have hlt : k < 2 := by have := of_decide_eq_true h; omega
        have hlt' : k < xs.length := by omega
        have hsk := hsx _ (List.getElem_mem hlt')
        refine ⟨_, ⟨k, rfl, by rw [Xl_get, List.getElem?_eq_getElem hlt']; rfl⟩, ?_⟩
        generalize xs[k] = x at *
        obtain ⟨v, m⟩ := x
        simp only at hsk
        refine ⟨_, right_ok v m, ?_⟩
        refine ⟨_, refRight_ok v m, ?_⟩
        refine ⟨_, fun _ => left_ok v m, ?_⟩
        refine ⟨_, fun _ => refLeft_ok v m, ?_⟩
        refine ⟨rfl, fun h => ?_, fun h => ?_⟩
        · exfalso
          simp at h
        · refine ⟨_, pick_ok number 30 hnum (by omega), ?_⟩
          refine ⟨Nat, fun j => ⟨[(4, .int number), (13, .bool true), (20, Ds (nums.take jn)), (92, .d (.sl 2 (Xl xs))), (93, .int 2), (94, .int k), (22, .ref 899999 0), (114, Ds [number, IntKind.i64.wrap (1 + pick number 30)]), (115, .int 2), (116, .int j)],
            ⟨[(899999, .cells [.int v, Ds m])], [], 800000, 0⟩⟩, fun j => j ≤ 2, fun j => 2 - j, 0, Nat.zero_le _, ?_, ?_⟩
          · exact ⟨⟨L.le_refl _, L.le_refl _, L.le_refl _, L.le_refl _, L.le_refl _, L.le_refl _, ⟨rfl, rfl⟩, L.le_refl _, L.le_refl _, L.le_refl _, trivial⟩, ⟨⟨L.le_refl _, L.le_refl _, trivial⟩, trivial⟩, rfl, rfl⟩
          · intro j hj _
            have incj : IntKind.i64.wrap ((j : Int) + 1) = ((j + 1 : Nat) : Int) := by rw [wrap64 (by omega) (by omega)]; simp
            refine ⟨fun h => ?_, fun h => ?_⟩
            · have hjl : j < 2 := by have := of_decide_eq_true h; omega
              have hjl' : j < [number, IntKind.i64.wrap (1 + pick number 30)].length := hjl
              refine ⟨_, ⟨j, rfl, by rw [Il_get, List.getElem?_eq_getElem hjl']; rfl⟩, ?_⟩
              generalize [number, IntKind.i64.wrap (1 + pick number 30)][j] = n
              refine ⟨_, take_ok v m n hsk, ?_⟩
              refine ⟨_, refTake_ok v m n hsk, ?_⟩
              refine ⟨_, same_self v _, ?_⟩
              refine ⟨fun h => ?_, fun h => ?_⟩
              · exfalso
                simp at h
              · refine ⟨j + 1, hjl, ?_, ?_⟩
                · show 2 - (j + 1) < 2 - j
                  omega
                · exact ⟨⟨L.le_refl _, L.le_refl _, L.le_refl _, L.le_refl _, L.le_refl _, L.le_refl _, ⟨rfl, rfl⟩, L.le_refl _, L.le_refl _, L.le_of_eq (by rw [incj]), trivial⟩, ⟨⟨L.le_refl _, L.le_refl _, trivial⟩, trivial⟩, rfl, rfl⟩
            · refine ⟨_, give_ok v m (nums.take jn) hsk, ?_⟩
              refine ⟨_, refGive_ok v m (nums.take jn) hsk, ?_⟩
              refine ⟨_, reset_ok v m hsk, ?_⟩
              refine ⟨_, refReset_ok v m hsk, ?_⟩
              refine ⟨_, same_self v _, ?_⟩
              refine ⟨_, fun _ => same_self v _, ?_⟩
              refine ⟨_, fun _ => ints_self _, ?_⟩
              refine ⟨fun h => ?_, fun h => ?_⟩
              · exfalso
                simp at h
              · refine ⟨k + 1, hlt, ?_, ?_⟩
                · show 2 - (k + 1) < 2 - k
                  omega
                · exact ⟨⟨L.le_refl _, L.le_refl _, L.le_refl _, L.le_refl _, L.le_refl _, L.le_of_eq (by rw [inc]), trivial⟩, trivial, rfl, rfl⟩
      · exact ⟨⟨L.le_refl _, trivial⟩, trivial, rfl, rfl⟩
end Go.Proofs.Ytdaigbpaggnijaa
