/-
  Layer 13: the law TxqFull.
-/
import Derived.Test.YthcbdpghfefnlaaDoorOF13
set_option linter.unusedVariables false
set_option linter.unusedSimpArgs false
set_option maxRecDepth 100000
namespace Go.Proofs.YthcbdpghfefnlaaDoor
open Go Go.Proofs.YthcbdpghfefnlaaDoor.Abs

theorem putE_ok {q : Que} {m : Msg} (hq : q.msgs.length ≤ 1000000) {q' : Que} {e : Int} (h : putR q m = (q', e)) : M 22 [q.N, m.V] (.tup [q'.V, .int e]) := by
  obtain ⟨lim, ms⟩ := q
  cases ms with
  | nil => have := put_nil lim m; rw [h] at this; exact this
  | cons x l => have := put_cons ⟨lim, x :: l⟩ m hq (by simp); rw [h] at this; exact this
/-- so many messages, alike but for their numbers -/
def fullL (r : R6) : Nat → List Msg
  | 0 => []
  | i + 1 => insQ (fullL r i) (numd r ((i + 1 : Nat) : Int))
theorem fullL_ne (r : R6) (i : Nat) : fullL r (i + 1) ≠ [] := insQ_ne _ _
theorem fullL_spec {r : R6} (hr : r.ok) (n : Nat) (hn : 1 ≤ n ∧ n ≤ 32) : ∀ i, i ≤ n → Good ⟨n, fullL r i⟩ ∧ (fullL r i).Perm ((List.range i).map fun j => numd r ((j + 1 : Nat) : Int)) ∧ (i < n → putR ⟨n, fullL r i⟩ (numd r ((i + 1 : Nat) : Int)) = (⟨n, fullL r (i + 1)⟩, 0)) := by
  have step : ∀ i, i ≤ n → Good ⟨n, fullL r i⟩ → (fullL r i).Perm ((List.range i).map fun j => numd r ((j + 1 : Nat) : Int)) → i < n → putR ⟨n, fullL r i⟩ (numd r ((i + 1 : Nat) : Int)) = (⟨n, fullL r (i + 1)⟩, 0) ∧ Good ⟨n, fullL r (i + 1)⟩ := by
    intro i hi hg hp hlt
    have hm : (numd r ((i + 1 : Nat) : Int)).right = true := numd_right hr (by omega) (by omega)
    have hnn : (numd r ((i + 1 : Nat) : Int)).number ∉ nums (fullL r i) := by
      intro h
      obtain ⟨x, hx, e⟩ := List.mem_map.1 h
      obtain ⟨j, hj', rfl⟩ := List.mem_map.1 (hp.mem_iff.1 hx)
      have hj' : j < i := by simpa using hj'
      have e : (((j + 1 : Nat) : Int)) = ((i + 1 : Nat) : Int) := e
      omega
    have hl : ((fullL r i).length : Int) < (n : Int) := by
      have := hp.length_eq
      simp at this
      omega
    exact hg.put hm hnn hl
  intro i
  induction i with
  | zero =>
    intro _
    have hg : Good ⟨n, fullL r 0⟩ := Good.new (by simp [mayB]; omega)
    exact ⟨hg, List.Perm.refl _, fun h => (step 0 (by omega) hg (List.Perm.refl _) h).1⟩
  | succ i ih =>
    intro hi
    obtain ⟨a, b, c⟩ := ih (by omega)
    have hg := (step i (by omega) a b (by omega)).2
    have hp : (fullL r (i + 1)).Perm ((List.range (i + 1)).map fun j => numd r ((j + 1 : Nat) : Int)) := by
      rw [List.range_succ, List.map_append]
      exact (insQ_perm _ _).trans ((b.cons _).trans (List.perm_append_singleton _ _).symm)
    exact ⟨hg, hp, fun h => (step (i + 1) hi hg hp h).1⟩

theorem Good.full {q : Que} {m : Msg} (h : Good q) (hm : m.right = true) (hn : m.number ∉ nums q.msgs) (hl : (q.msgs.length : Int) = q.lim) : putR q m = (q, 40) := by
  rw [putR, if_neg (by simp [h.isRight, hm]), if_neg, if_pos hl]
  rcases findN_cases (fun x => x.number == m.number) q.msgs with ⟨h1, h2⟩ | ⟨k, hk, h1, h2, h3⟩
  · omega
  · exact absurd (List.mem_map.2 ⟨_, List.getElem_mem hk, by simpa using h2⟩) hn
theorem Good.twice {q : Que} {m : Msg} (h : Good q) (hm : m.right = true) (hn : m.number ∈ nums q.msgs) : putR q m = (q, 42) := by
  rw [putR, if_neg (by simp [h.isRight, hm]), if_pos]
  rcases findN_cases (fun x => x.number == m.number) q.msgs with ⟨h1, h2⟩ | ⟨k, hk, h1, h2, h3⟩
  · obtain ⟨x, hx, e⟩ := List.mem_map.1 hn
    have := h2 x hx
    simp [e] at this
  · omega
set_option maxHeartbeats 2000000 in
theorem full_law (a : Int) (r : R6) (ha : InR a) (hr : r.ok) : M 5 [.int a, .d (.agg r.L)] (.bool true) := by
  have hpk := pick_range (c := a) (n := 32) (by omega)
  obtain ⟨n, hn⟩ : ∃ n : Nat, 1 + pick a 32 = n := ⟨(1 + pick a 32).toNat, by omega⟩
  have hn1 : 1 ≤ n := by omega
  have hn32 : n ≤ 32 := by omega
  have S := fullL_spec hr n ⟨hn1, hn32⟩
  have hmay : mayB (n : Int) = true := by simp [mayB]; omega
  refine gF5 [] [] rfl rfl fun hb => ?_
  refine ⟨_, awake_ok, ?_⟩
  refine ⟨_, pick13_ok a 32 ha (by omega), ?_⟩
  refine ⟨_, by rw [wrap64 (by omega) (by omega), hn]; have := new_ok n; rw [hmay] at this; exact this, ?_⟩
  refine ⟨Nat, fun i => ⟨[(3, .ref 999999 0), (5, .bool true), (6, .int n), (7, .ref 999998 0), (8, .int 0), (9, .int i)],
      ⟨[(999999, .cells [.int r.a, .int r.b, .int r.c, .int r.d, .int r.e, .int r.f]), (999998, .cells [.int n, .d (.l (Que.ml ⟨n, fullL r i⟩))])], [], 900000, 0⟩⟩, fun i => i ≤ n, fun i => n - i, 0, Nat.zero_le _, ?_, ?_⟩
  · exact ⟨⟨⟨rfl, rfl⟩, L.le_refl _, L.le_of_eq (by rw [wrap64 (by omega) (by omega), hn]), ⟨rfl, rfl⟩, L.le_refl _, L.le_refl _, trivial⟩, ⟨⟨L.le_refl _, L.le_refl _, L.le_refl _, L.le_refl _, L.le_refl _, L.le_refl _, trivial⟩, ⟨L.le_refl _, L.le_refl _, trivial⟩, trivial⟩, rfl, rfl⟩
  · rintro i hi _
    refine ⟨fun hc => ?_, fun hc => ?_⟩
    · have hlt : i < n := by simpa using hc
      have wi : IntKind.i64.wrap ((i : Int) + 1) = ((i + 1 : Nat) : Int) := by rw [wrap64 (by omega) (by omega)]; omega
      obtain ⟨s1, s2, s3⟩ := S i hi
      have l1 := s2.length_eq
      have l2 := (S (i + 1) hlt).2.1.length_eq
      simp only [List.length_map, List.length_range] at l1 l2
      refine ⟨_, by rw [wi]; exact numd_ok r hr ((i + 1 : Nat) : Int), ?_⟩
      refine ⟨_, _, agArg (putE_ok (q := ⟨n, fullL r i⟩) (by show (fullL r i).length ≤ _; omega) (s3 hlt)), ?_⟩
      refine ⟨rfl, ?_⟩
      refine ⟨fun h => ?_, fun _ => ?_⟩
      · exfalso
        revert h
        rw [Ml_length, l2, wi]
        simp
      refine ⟨i + 1, hlt, by show n - (i + 1) < n - i; omega, ?_⟩
      exact ⟨⟨⟨rfl, rfl⟩, L.le_refl _, L.le_refl _, ⟨rfl, rfl⟩, L.le_refl _, L.le_of_eq (by rw [wi]), trivial⟩, ⟨⟨L.le_refl _, L.le_refl _, L.le_refl _, L.le_refl _, L.le_refl _, L.le_refl _, trivial⟩, ⟨L.le_refl _, le_ml (q := ⟨n, fullL r (i + 1)⟩) (fullL_ne r i), trivial⟩, trivial⟩, rfl, rfl⟩
    · have hin : i = n := by
        have : ¬ ((i : Int) < n) := by simpa using hc
        omega
      subst hin
      obtain ⟨j, rfl⟩ : ∃ j, i = j + 1 := ⟨i - 1, by omega⟩
      have wi : IntKind.i64.wrap (((j + 1 : Nat) : Int) + 1) = ((j + 1 + 1 : Nat) : Int) := by rw [wrap64 (by omega) (by omega)]; omega
      obtain ⟨s1, s2, _⟩ := S (j + 1) (Nat.le_refl _)
      obtain ⟨t1, t2, t3⟩ := S j (by omega)
      have l1 := s2.length_eq
      simp only [List.length_map, List.length_range] at l1
      have hnum : ∀ k (x : Msg), x ∈ (List.range k).map (fun j => numd r ((j + 1 : Nat) : Int)) → x.number ≤ k := by
        intro k x hx
        obtain ⟨q, hq, rfl⟩ := List.mem_map.1 hx
        have hq : q < k := by simpa using hq
        show ((q + 1 : Nat) : Int) ≤ k
        omega
      have hy : ∀ k : Nat, 1 ≤ k → k ≤ 33 → (numd r (k : Int)).right = true := fun k h1 h2 => numd_right hr (by omega) (by omega)
      have hin : ((j + 1 : Nat) : Int) ∈ nums (fullL r (j + 1)) := (s2.map _).mem_iff.2 (List.mem_map.2 ⟨numd r ((j + 1 : Nat) : Int), List.mem_map.2 ⟨j, by simp, rfl⟩, rfl⟩)
      have hno : (numd r ((j + 1 + 1 : Nat) : Int)).number ∉ nums (fullL r (j + 1)) := fun h => by
        obtain ⟨x, hx, e⟩ := List.mem_map.1 h
        have e1 := hnum _ _ (s2.mem_iff.1 hx)
        have e2 : x.number = ((j + 1 + 1 : Nat) : Int) := e
        omega
      have F1 : putR ⟨((j + 1 : Nat) : Int), fullL r (j + 1)⟩ (numd r ((j + 1 + 1 : Nat) : Int)) = (⟨((j + 1 : Nat) : Int), fullL r (j + 1)⟩, 40) :=
        s1.full (hy (j + 1 + 1) (by omega) (by omega)) hno (by show ((fullL r (j + 1)).length : Int) = ((j + 1 : Nat) : Int); omega)
      have F2 : putR ⟨((j + 1 : Nat) : Int), fullL r (j + 1)⟩ (numd r ((j + 1 : Nat) : Int)) = (⟨((j + 1 : Nat) : Int), fullL r (j + 1)⟩, 42) :=
        s1.twice (hy (j + 1) (by omega) (by omega)) hin
      have hfil : (fullL r (j + 1)).filter (fun m => !(m.number == ((j + 1 : Nat) : Int))) = fullL r j := by
        refine srt_perm (s1.one' (n := ((j + 1 : Nat) : Int))).srt t1.srt (((insQ_perm _ _).filter _).trans ?_)
        rw [List.filter_cons, if_neg (by show ¬ (!(((j + 1 : Nat) : Int) == ((j + 1 : Nat) : Int))) = true; simp)]
        rw [List.filter_eq_self.2 fun x hx => by have := hnum _ _ (t2.mem_iff.1 hx); simp; omega]
      obtain ⟨x, hx1, hx2, hx3⟩ := s1.one (n := ((j + 1 : Nat) : Int)) hin
      simp only [hfil] at hx3
      have hsm : ∀ q : Que, q.same q = true := fun q => by rw [Que.same, (sameL_iff _ _).2 rfl]; simp
      have same : M 11 [Que.V ⟨((j + 1 : Nat) : Int), fullL r (j + 1)⟩, Que.N ⟨((j + 1 : Nat) : Int), fullL r (j + 1)⟩] (.bool true) := by
        have := toN2 (qsame_ok ⟨((j + 1 : Nat) : Int), fullL r (j + 1)⟩ ⟨((j + 1 : Nat) : Int), fullL r (j + 1)⟩)
        rw [hsm] at this
        exact this
      have rgt : M 19 [Que.N ⟨((j + 1 : Nat) : Int), fullL r (j + 1)⟩] (.bool true) := by
        have := toN (qright_ok ⟨((j + 1 : Nat) : Int), fullL r (j + 1)⟩ (by show (fullL r (j + 1)).length ≤ _; omega))
        rw [s1.isRight] at this
        exact this
      have hlq : (Que.msgs ⟨((j + 1 : Nat) : Int), fullL r (j + 1)⟩).length ≤ 1000000 := by show (fullL r (j + 1)).length ≤ _; omega
      refine ⟨_, by rw [wi]; exact numd_ok r hr ((j + 1 + 1 : Nat) : Int), ?_⟩
      refine ⟨_, _, agArg (putE_ok hlq F1), ?_⟩
      refine ⟨rfl, ?_⟩
      refine ⟨_, numd_ok r hr ((j + 1 : Nat) : Int), ?_⟩
      refine ⟨_, _, agArg (putE_ok hlq F2), ?_⟩
      refine ⟨rfl, ?_⟩
      cases j with
      | zero =>
        have e1 : fullL r 1 = [numd r 1] := rfl
        refine ⟨_, _, agArg (abort1 1 (numd r 1) 1 s1.isRight rfl), ?_⟩
        refine ⟨_, numd_ok r hr 1, ?_⟩
        refine ⟨_, _, put0 1 (numd r 1) (Good.isRight (Good.new (by rfl))) (hy 1 (by omega) (by omega)), ?_⟩
        refine ⟨rfl, ?_⟩
        refine ⟨_, fun _ => same, ?_⟩
        refine ⟨_, fun _ => same, ?_⟩
        refine ⟨_, fun _ => same, ?_⟩
        refine ⟨_, fun _ => rgt, ?_⟩
        refine ⟨⟨L.le_of_eq ?_, trivial⟩, trivial, rfl, rfl⟩
        rfl
      | succ j =>
        have hab := toN (abort_ok ⟨((j + 1 + 1 : Nat) : Int), fullL r (j + 1 + 1)⟩ ((j + 1 + 1 : Nat) : Int) hlq)
        rw [takenR, hx3] at hab
        refine ⟨_, _, agArg hab, ?_⟩
        refine ⟨_, numd_ok r hr ((j + 1 + 1 : Nat) : Int), ?_⟩
        have hpc := put_cons ⟨((j + 1 + 1 : Nat) : Int), fullL r (j + 1)⟩ (numd r ((j + 1 + 1 : Nat) : Int)) (by have := t2.length_eq; simp at this; show (fullL r (j + 1)).length ≤ _; omega) (fullL_ne r j)
        rw [t3 (by omega)] at hpc
        refine ⟨_, _, agArg hpc, ?_⟩
        refine ⟨rfl, ?_⟩
        refine ⟨_, fun _ => same, ?_⟩
        refine ⟨_, fun _ => same, ?_⟩
        refine ⟨_, fun _ => same, ?_⟩
        refine ⟨_, fun _ => rgt, ?_⟩
        refine ⟨⟨L.le_of_eq ?_, trivial⟩, trivial, rfl, rfl⟩
        simp [hx2]
end Go.Proofs.YthcbdpghfefnlaaDoor
