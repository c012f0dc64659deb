/-
  Layer 4: the law MsgTwice.
-/
import Derived.Test.YtokomdenoegkgaaDoorOE04
set_option linter.unusedVariables false
set_option linter.unusedSimpArgs false
set_option maxRecDepth 100000
namespace Go.Proofs.YtokomdenoegkgaaDoor
open Go Go.Proofs.YtokomdenoegkgaaDoor.Abs

set_option maxHeartbeats 4000000 in
theorem twice_law (raw : List R6) (at' : Int) (hr : ∀ r ∈ raw, r.ok) (ha : InR at') (hlen : raw.length ≤ 9223372036854775807) : M 7 [Rs raw, .int at'] (.bool true) := by
  have hml := Rl_length raw
  have hget : ∀ k (h : k < raw.length), raw.getD k r0 = raw[k] := fun k h => by simp [List.getD_eq_getElem?_getD, h]
  refine go7 rfl rfl fun hb => ?_
  refine ⟨_, awake_ok, ?_⟩
  refine ⟨Nat, fun i => ⟨[(0, Rs raw), (1, .int at'), (5, .bool true), (6, .own 950000 7 (Ml (nmL raw i))), (7, .int i)], ⟨[], [950000], 900000, 0⟩⟩, fun i => i ≤ raw.length ∧ i ≤ 10, fun i => 10 - i, 0, ⟨Nat.zero_le _, Nat.zero_le _⟩, ?_, ?_⟩
  · exact ⟨⟨L.le_refl _, L.le_refl _, L.le_refl _, rfl, L.le_refl _, trivial⟩, trivial, rfl, rfl⟩
  rintro i ⟨hi, hi8⟩ _
  have hms := Ml_length (nmL raw i)
  have hnl := nmL_length raw i
  have hwi : IntKind.i64.wrap ((i : Int) + 1) = ((i + 1 : Nat) : Int) := by rw [wrap64 (by omega) (by omega)]; rfl
  refine ⟨fun hc => ?_, fun hc => ?_⟩
  · have hc : i < raw.length ∧ (i : Int) < 10 := by
      rw [cond_and] at hc
      simpa [hml] using hc
    have hc : i < raw.length ∧ i < 10 := ⟨hc.1, by omega⟩
    have hmo := msg_ok raw[i] (hr _ (List.getElem_mem hc.1)) ⟨#[]⟩
    have hma : msA raw ⟨#[]⟩ i = raw[i].msg ⟨#[]⟩ := by rw [msA, hget i hc.1]
    rw [← hma] at hmo
    refine ⟨raw[i].L, ⟨i, rfl, by simp [Rl_get, hc.1]⟩, ?_⟩
    refine ⟨_, hmo, ?_⟩
    refine ⟨by show ((Ml (nmL raw i)).length + 1) * 64 ≤ _; omega, ?_⟩
    refine ⟨i + 1, ⟨hc.1, hc.2⟩, by show 10 - (i + 1) < 10 - i; omega, ?_⟩
    refine ⟨⟨L.le_refl _, L.le_refl _, L.le_refl _, ⟨rfl, L.le_of_eq (congrArg (L.sl 7) ?_)⟩, L.le_of_eq (congrArg L.int hwi), trivial⟩, trivial, rfl, rfl⟩
    rw [nmL_succ, ← Ml_app]
    show Ml (nmL raw i) ++ [[L.bool (msA raw ⟨#[]⟩ i).ext, L.int (msA raw ⟨#[]⟩ i).n, L.int (msA raw ⟨#[]⟩ i).sender, L.int (msA raw ⟨#[]⟩ i).inc, L.int (msA raw ⟨#[]⟩ i).seq, L.int (IntKind.i64.wrap ((i : Int) + 1)), L.str (msA raw ⟨#[]⟩ i).data]] = _
    rw [hwi]; rfl
  · obtain ⟨l, hl⟩ : ∃ l, l = nmL raw i := ⟨_, rfl⟩
    have hF : Fine l := by rw [hl]; exact nmFine raw i
    rw [← hl] at hms hnl
    rw [← hl]
    have hwl : IntKind.i64.wrap (((Ml l).length : Int) + 1) = ((l.length + 1 : Nat) : Int) := by rw [hms, wrap64 (by omega) (by omega)]; rfl
    have hpr := pick_range (c := at') (n := ((l.length + 1 : Nat) : Int)) (by omega)
    have hpk := pick_ok at' ((l.length + 1 : Nat) : Int) ha (by omega)
    rw [← hwl] at hpk
    refine ⟨_, hpk, ?_⟩
    rw [hwl]
    obtain ⟨k, hk⟩ : ∃ k : Nat, pick at' ((l.length + 1 : Nat) : Int) = (k : Int) := ⟨(pick at' ((l.length + 1 : Nat) : Int)).toNat, by omega⟩
    have hkl : k ≤ l.length := by omega
    refine ⟨_, _, sort_ok l (by omega), ?_⟩
    obtain ⟨hsrt, hsp⟩ := hF.sort
    obtain ⟨a, hA⟩ : ∃ a, a = sortL l := ⟨_, rfl⟩
    rw [← hA] at hsrt hsp
    have hal : a.length = l.length := hsp.length_eq
    have hma := Ml_length a
    have hs2 := sort_ok a (by omega)
    have haa : sortL a = a := by rw [hA]; exact hF.same (by rw [← hA]; exact hsp)
    rw [haa] at hs2
    rw [← hA]
    refine ⟨_, _, hs2, ?_⟩
    refine ⟨k, ⟨hk, by omega⟩, ?_⟩
    have hF1 : Fine (l.take k) := hF.sub (List.take_sublist k l)
    have hF2 : Fine (l.drop k) := hF.sub (List.drop_sublist k l)
    obtain ⟨q1, q2⟩ := hF1.sort
    obtain ⟨q3, q4⟩ := hF2.sort
    have hl1 : (sortL (l.take k)).length = k := by rw [q2.length_eq, List.length_take]; omega
    have hl2 : (sortL (l.drop k)).length = l.length - k := by rw [q4.length_eq, List.length_drop]
    have hp2 : (sortL (l.take k) ++ sortL (l.drop k)).Perm l := by
      have := q2.append q4
      rwa [List.take_append_drop] at this
    have hc2 : sortL (sortL (l.take k) ++ sortL (l.drop k)) = a := by rw [hA]; exact hF.same hp2
    have hm1 := Ml_length (sortL (l.take k))
    have hm2 := Ml_length (sortL (l.drop k))
    have hd := sort_ok (l.drop k) (by rw [List.length_drop]; omega)
    have hd' : MM 21 [] [.d (.l (.sl 7 ((Ml l).drop k)))] [] (Ms (sortL (l.drop k))) := by rw [Ml_drop]; exact hd
    apply cut
    · intro key
      rcases Nat.eq_zero_or_pos k with h0 | h0
      · have hnil : sortL (l.take k) = [] := List.eq_nil_of_length_eq_zero (by omega)
        have hn := sortNil_ok (l.take k) (by rw [List.length_take]; omega) hnil
        have hn' : MM 21 [] [.d (.l (.sl 7 ((Ml l).take k)))] [] (.d (.l .nil)) := by rw [Ml_take]; exact hn
        refine ⟨_, _, hn', ?_⟩
        refine ⟨k, ⟨hk, by omega⟩, ?_⟩
        refine ⟨_, _, hd', ?_⟩
        refine ⟨by show (0 + (Ml (sortL (l.drop k))).length) * 64 ≤ _; omega, ?_⟩
        have hs3 := sort_ok (sortL (l.take k) ++ sortL (l.drop k)) (by rw [List.length_append]; omega)
        rw [hc2, hnil, List.nil_append] at hs3
        refine ⟨_, _, hs3, ?_⟩
        refine ⟨rfl, ?_⟩
        exact ⟨Nat, (fun p : Nat => (⟨[(5, .bool true), (6, Ms l), (10, Ms a), (11, Ms a), (12, Ms a), (13, .int p)], ⟨[], [], 850000, 0⟩⟩ : ASt)), (fun p => 1 ≤ p ∧ p ≤ a.length + 1), (fun p => a.length + 1 - p), 1, ⟨Nat.le_refl _, by omega⟩, ⟨⟨L.le_refl _, L.le_refl _, L.le_refl _, L.le_refl _, L.le_refl _, L.le_refl _, trivial⟩, trivial, rfl, rfl⟩, key.of⟩
      · have hne : sortL (l.take k) ≠ [] := fun h => by rw [h] at hl1; simp at hl1; omega
        have hn := sortN_ok (l.take k) (by rw [List.length_take]; omega) hne
        have hn' : MM 21 [] [.d (.l (.sl 7 ((Ml l).take k)))] [(100, .arr 7 (Ml (sortL (l.take k))) false)] (.msl 100 7 0 (Ml (sortL (l.take k))).length) := by rw [Ml_take]; exact hn
        refine ⟨_, _, hn', ?_⟩
        refine ⟨k, ⟨hk, by omega⟩, ?_⟩
        refine ⟨_, _, hd', ?_⟩
        refine ⟨trivial, .inr (.inr ⟨⟨rfl, Nat.le_refl _, by show ((Ml (sortL (l.take k))).length + (Ml (sortL (l.drop k))).length) * 64 ≤ _; omega⟩, ?_⟩)⟩
        have hs3 := sortA_ok (sortL (l.take k) ++ sortL (l.drop k)) (by rw [List.length_append]; omega) false
        rw [hc2] at hs3
        have hbx : Ml (sortL (l.take k) ++ sortL (l.drop k)) = (Ml (sortL (l.take k))).take (Ml (sortL (l.take k))).length ++ Ml (sortL (l.drop k)) := by rw [List.take_length, Ml_app]
        have hbl : (Ml (sortL (l.take k) ++ sortL (l.drop k))).length = (Ml (sortL (l.take k))).length + (Ml (sortL (l.drop k))).length := by rw [← Ml_app, List.length_append]
        rw [hbl, hbx] at hs3
        refine ⟨_, _, hs3, ?_⟩
        refine ⟨rfl, ?_⟩
        exact ⟨Nat, (fun p : Nat => (⟨[(5, .bool true), (6, Ms l), (10, Ms a), (11, Ms a), (12, Ms a), (13, .int p)], ⟨[], [], 850000, 0⟩⟩ : ASt)), (fun p => 1 ≤ p ∧ p ≤ a.length + 1), (fun p => a.length + 1 - p), 1, ⟨Nat.le_refl _, by omega⟩, ⟨⟨L.le_refl _, L.le_refl _, L.le_refl _, L.le_refl _, L.le_refl _, L.le_refl _, trivial⟩, trivial, rfl, rfl⟩, key.of⟩
    · rintro p ⟨hp1, hp2⟩ _
      refine ⟨fun hc => ?_, fun hc => ?_⟩
      · have hpl : p < a.length := by
          have : (p : Int) < ((Ml a).length : Int) := by simpa using hc
          omega
        have h0l : 0 < a.length := by omega
        have hless : a[0].less a[p] = true := (List.pairwise_iff_getElem.1 hsrt) 0 p (by omega) hpl (by omega)
        have hg0 : (Ml a)[0]? = some a[0].L := by rw [Ml_get, List.getElem?_eq_getElem h0l]; rfl
        have hgp : (Ml a)[p]? = some a[p].L := by rw [Ml_get, List.getElem?_eq_getElem hpl]; rfl
        have hl1 := less_ok a[0] a[p]
        rw [hless] at hl1
        refine ⟨a[0].L, ⟨0, rfl, hg0⟩, ?_⟩
        refine ⟨a[p].L, ⟨p, rfl, hgp⟩, ?_⟩
        refine ⟨_, hl1, ?_⟩
        refine ⟨rfl, ?_⟩
        refine ⟨fun h => absurd h (by decide), fun _ => ?_⟩
        refine ⟨p + 1, ⟨by omega, by omega⟩, by show a.length + 1 - (p + 1) < a.length + 1 - p; omega, ?_⟩
        refine ⟨⟨L.le_refl _, L.le_refl _, L.le_refl _, L.le_refl _, L.le_refl _, L.le_of_eq (congrArg L.int ?_), trivial⟩, trivial, rfl, rfl⟩
        rw [wrap64 (by omega) (by omega)]; rfl
      · refine ⟨_, fun _ => same_refl a, ?_⟩
        refine ⟨_, fun _ => same_refl a, ?_⟩
        refine ⟨⟨L.le_of_eq (congrArg L.bool ?_), trivial⟩, trivial, rfl, rfl⟩
        show cond (cond (cond true (((Ml a).length : Int) == ((Ml l).length : Int)) false) true false) true false = true
        rw [hma, hms, hal]; simp
end Go.Proofs.YtokomdenoegkgaaDoor
