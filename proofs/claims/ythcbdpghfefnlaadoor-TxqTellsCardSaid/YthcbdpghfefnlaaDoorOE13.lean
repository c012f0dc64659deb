/-
  Layer 13: the document's own answer.
-/
import Derived.Test.YthcbdpghfefnlaaDoorOL13
set_option linter.unusedVariables false
set_option linter.unusedSimpArgs false
set_option maxRecDepth 100000
namespace Go.Proofs.YthcbdpghfefnlaaDoor
open Go Go.Proofs.YthcbdpghfefnlaaDoor.Abs

theorem numsI_le (l : List Msg) : ∀ acc : List Int, (l.foldl (fun s m => insI s m.number) acc).length ≤ acc.length + l.length := by
  induction l with
  | nil => intro acc; simp
  | cons m l ih =>
    intro acc
    rw [List.foldl_cons]
    have h1 := ih (insI acc m.number)
    have h2 : (insI acc m.number).length ≤ acc.length + 1 := by rw [insI]; split <;> simp
    simp only [List.length_cons]
    omega
theorem numsI_inv (l : List Msg) : ∀ acc : List Int, acc.Nodup → (l.foldl (fun s m => insI s m.number) acc).length = acc.length + l.length → (acc ++ nums l).Nodup := by
  induction l with
  | nil => intro acc h _; simpa [nums] using h
  | cons m l ih =>
    intro acc hn h
    rw [List.foldl_cons] at h
    have h1 := numsI_le l (insI acc m.number)
    by_cases hm : m.number ∈ acc
    · rw [insI, if_pos hm] at h h1
      simp only [List.length_cons] at h
      omega
    · rw [insI, if_neg hm] at h
      have := ih (acc ++ [m.number]) (by rw [List.nodup_append]; exact ⟨hn, by simp, fun a ha b hb e => by simp at hb; subst hb; subst e; exact hm ha⟩) (by rw [h]; simp; omega)
      simpa [nums] using this
theorem numsI_iff (l : List Msg) : (numsI l).length = l.length ↔ (nums l).Nodup := by
  constructor
  · intro h
    have := numsI_inv l [] (by simp) (by rw [← numsI, h]; simp)
    simpa using this
  · intro h
    have := numsI_spec l [] (by simpa using h)
    rw [numsI, this]
    simp

theorem rightRef_ok (q : Que) (hq : q.msgs.length ≤ 1000000000) : M 20 [q.V] (.bool q.right) := by
  have hml := Ml_length q.msgs
  refine go20 rfl rfl fun hb => ?_
  refine ⟨fun h => ?_, fun h => ?_⟩
  · refine ⟨⟨L.le_of_eq ?_, trivial⟩, trivial, rfl, rfl⟩
    have : (mayB q.lim && decide ((q.msgs.length : Int) ≤ q.lim)) = false := by
      revert h; rw [hml, mayB]
      by_cases h1 : q.lim < 1 <;> by_cases h2 : q.lim > 32 <;> by_cases h3 : (q.msgs.length : Int) > q.lim <;> simp [h1, h2, h3] <;> omega
    rw [Que.right, this]; rfl
  have h0 : (mayB q.lim && decide ((q.msgs.length : Int) ≤ q.lim)) = true := by
    revert h; rw [hml, mayB]
    by_cases h1 : q.lim < 1 <;> by_cases h2 : q.lim > 32 <;> by_cases h3 : (q.msgs.length : Int) > q.lim <;> simp [h1, h2, h3] <;> omega
  have hwk : ∀ k : Nat, k < q.msgs.length → IntKind.i64.wrap ((k : Int) + 1) = ((k + 1 : Nat) : Int) := fun k hk => by rw [wrap64 (by omega) (by omega)]; omega
  refine ⟨Nat, fun i => ⟨[(1, .ref 999999 0), (3, .int i)], ⟨[(999999, .cells [.int q.lim, Ms q.msgs])], [], 900000, 0⟩⟩, fun i => i ≤ q.msgs.length ∧ (∀ j, j < i → okAt q.msgs j = true) ∧ ∀ j k (hj : j < i) (hk : k < j), (q.msgs.getD k dmsg).number ≠ (q.msgs.getD j dmsg).number, fun i => q.msgs.length - i, 0, ⟨Nat.zero_le _, nofun, nofun⟩, ?_, ?_⟩
  · refine ⟨⟨⟨rfl, rfl⟩, L.le_refl _, trivial⟩, ⟨⟨L.le_refl _, L.le_refl _, trivial⟩, trivial⟩, rfl, rfl⟩
  · rintro i ⟨hi, hall, hdist⟩ _
    refine ⟨fun hc => ?_, fun hc => ?_⟩
    · have hlt : i < q.msgs.length := by rw [hml] at hc; simpa using hc
      have hget : q.msgs.getD i dmsg = q.msgs[i] := by simp [List.getD_eq_getElem?_getD, hlt]
      refine ⟨q.msgs[i].L, ⟨i, rfl, by simp [Ml_get, hlt]⟩, ?_⟩
      refine ⟨_, right'_ok q.msgs[i], ?_⟩
      refine ⟨(q.msgs.getD (i - 1) dmsg).L, fun _ hg => ⟨i - 1, ?_, ?_⟩, ?_⟩
      · have hg : 0 < i := by simpa using hg
        rw [wrap64 (by omega) (by omega)]; omega
      · have hg : 0 < i := by simpa using hg
        have : i - 1 < q.msgs.length := by omega
        simp [Ml_get, this, List.getD_eq_getElem?_getD]
      refine ⟨q.msgs[i].L, fun _ _ => ⟨i, rfl, by simp [Ml_get, hlt]⟩, ?_⟩
      refine ⟨_, fun _ _ => less'_ok (q.msgs.getD (i - 1) dmsg) q.msgs[i], ?_⟩
      refine ⟨rfl, ?_⟩
      refine ⟨fun hc2 => ?_, fun hc2 => ?_⟩
      · have hok : okAt q.msgs i = false := by
          rw [okAt, hget]
          revert hc2
          cases q.msgs[i].right <;> cases (q.msgs.getD (i - 1) dmsg).less q.msgs[i] <;> by_cases hz : i = 0 <;> simp [hz] <;> omega
        refine ⟨⟨L.le_of_eq ?_, trivial⟩, trivial, rfl, rfl⟩
        have : (List.range q.msgs.length).all (okAt q.msgs) = false := by
          rw [List.all_eq_false]
          exact ⟨i, by simpa using hlt, by simp [hok]⟩
        rw [Que.right, this]
        simp
      · have hok : okAt q.msgs i = true := by
          rw [okAt, hget]
          revert hc2
          cases q.msgs[i].right <;> cases (q.msgs.getD (i - 1) dmsg).less q.msgs[i] <;> by_cases hz : i = 0 <;> simp [hz] <;> omega
        refine ⟨Nat, fun k => ⟨[(1, .ref 999999 0), (3, .int i), (4, .int k)], ⟨[(999999, .cells [.int q.lim, Ms q.msgs])], [], 800000, 0⟩⟩, fun k => k ≤ i ∧ ∀ j, j < k → (q.msgs.getD j dmsg).number ≠ (q.msgs.getD i dmsg).number, fun k => i - k, 0, ⟨Nat.zero_le _, nofun⟩, ?_, ?_⟩
        · refine ⟨⟨⟨rfl, rfl⟩, L.le_refl _, L.le_refl _, trivial⟩, ⟨⟨L.le_refl _, L.le_refl _, trivial⟩, trivial⟩, rfl, rfl⟩
        · rintro k ⟨hk, hne⟩ _
          refine ⟨fun hc3 => ?_, fun hc3 => ?_⟩
          · have hki : k < i := by simpa using hc3
            have hkl : k < q.msgs.length := by omega
            have hgetk : q.msgs.getD k dmsg = q.msgs[k] := by simp [List.getD_eq_getElem?_getD, hkl]
            refine ⟨q.msgs[k].L, ⟨k, rfl, by simp [Ml_get, hkl]⟩, ?_⟩
            refine ⟨q.msgs[i].L, ⟨i, rfl, by simp [Ml_get, hlt]⟩, ?_⟩
            refine ⟨rfl, ?_⟩
            refine ⟨fun h4 => ?_, fun h4 => ?_⟩
            · refine ⟨⟨L.le_of_eq ?_, trivial⟩, trivial, rfl, rfl⟩
              have e4 : q.msgs[k].number = q.msgs[i].number := by simpa using h4
              have : ¬ (numsI q.msgs).length = q.msgs.length := by
                rw [numsI_iff]
                intro nd
                rw [nums, List.Nodup, List.pairwise_map] at nd
                exact List.pairwise_iff_getElem.1 nd k i hkl hlt hki e4
              rw [Que.right, decide_eq_false this]
              simp
            · have e4 : q.msgs[k].number ≠ q.msgs[i].number := by simpa using h4
              refine ⟨k + 1, ⟨hki, fun j hj => ?_⟩, by show i - (k + 1) < i - k; omega, ?_⟩
              · rcases Nat.lt_or_eq_of_le (Nat.lt_succ_iff.1 hj) with h1 | h1
                · exact hne j h1
                · rw [h1, hgetk, hget]; exact e4
              · refine ⟨⟨⟨rfl, rfl⟩, L.le_refl _, L.le_of_eq (by rw [hwk k hkl]), trivial⟩, ⟨⟨L.le_refl _, L.le_refl _, trivial⟩, trivial⟩, rfl, rfl⟩
          · have hki : k = i := by
              have : ¬ ((k : Int) < i) := by simpa using hc3
              omega
            refine ⟨i + 1, ⟨hlt, fun j hj => ?_, fun j k2 hj hk2 => ?_⟩, by show q.msgs.length - (i + 1) < q.msgs.length - i; omega, ?_⟩
            · rcases Nat.lt_or_eq_of_le (Nat.lt_succ_iff.1 hj) with h1 | h1
              · exact hall j h1
              · rw [h1]; exact hok
            · rcases Nat.lt_or_eq_of_le (Nat.lt_succ_iff.1 hj) with h1 | h1
              · exact hdist j k2 h1 hk2
              · rw [h1] at hk2 ⊢; exact hne k2 (by omega)
            · refine ⟨⟨⟨rfl, rfl⟩, L.le_of_eq (by rw [hwk i hlt]), trivial⟩, ⟨⟨L.le_refl _, L.le_refl _, trivial⟩, trivial⟩, rfl, rfl⟩
    · have hge : i = q.msgs.length := by
        have : ¬ ((i : Int) < q.msgs.length) := by rw [hml] at hc; simpa using hc
        omega
      refine ⟨⟨L.le_of_eq ?_, trivial⟩, trivial, rfl, rfl⟩
      have hal : (List.range q.msgs.length).all (okAt q.msgs) = true := by
        rw [List.all_eq_true]
        intro j hj
        exact hall j (by rw [hge]; simpa using hj)
      have hnd : (numsI q.msgs).length = q.msgs.length := by
        rw [numsI_iff, nums, List.Nodup, List.pairwise_map, List.pairwise_iff_getElem]
        intro k j hk hj hkj e
        refine hdist j k (by omega) hkj ?_
        simp [List.getD_eq_getElem?_getD, hk, hj, e]
      rw [Que.right, h0, hal, decide_eq_true hnd]
      rfl
end Go.Proofs.YthcbdpghfefnlaaDoor
