/-
  Layer 13: the law TxqSame.
-/
import Derived.Test.YthcbdpghfefnlaaDoorOQ13
set_option linter.unusedVariables false
set_option linter.unusedSimpArgs false
set_option maxRecDepth 100000
namespace Go.Proofs.YthcbdpghfefnlaaDoor
open Go Go.Proofs.YthcbdpghfefnlaaDoor.Abs

theorem modinj {i j k n : Nat} (hi : i < n) (hj : j < n) (h : (i + k) % n = (j + k) % n) : i = j := by
  have h1 := Nat.div_add_mod (i + k) n
  have h2 := Nat.div_add_mod (j + k) n
  rw [h] at h1
  rcases Nat.lt_trichotomy ((i + k) / n) ((j + k) / n) with h3 | h3 | h3
  · have := Nat.mul_le_mul_left n (Nat.succ_le_of_lt h3)
    rw [Nat.mul_succ] at this
    omega
  · rw [h3] at h1; omega
  · have := Nat.mul_le_mul_left n (Nat.succ_le_of_lt h3)
    rw [Nat.mul_succ] at this
    omega
theorem perm_mod (raw : List R6) (n k : Nat) (hk : k ≤ n) : ((List.range n).map fun j => msOf raw (id j)).Perm ((List.range n).map fun j => msOf raw ((j + k) % n)) := by
  have h : (List.range n).Perm ((List.range n).map fun j => (j + k) % n) := by
    have nd : ((List.range n).map fun j => (j + k) % n).Nodup := by
      rw [List.Nodup, List.pairwise_map]
      refine List.nodup_range.imp_of_mem fun {x y} hx hy hne e => hne (modinj (by simpa using hx) (by simpa using hy) e)
    refine ((List.perm_ext_iff_of_nodup List.nodup_range nd).2 fun x => ?_)
    constructor
    · intro hx
      have hx : x < n := by simpa using hx
      refine List.mem_map.2 ⟨if k ≤ x then x - k else x + n - k, ?_, ?_⟩
      · simp; split <;> omega
      · split
        · rw [show x - k + k = x by omega]; exact Nat.mod_eq_of_lt hx
        · rw [show x + n - k + k = x + n by omega, Nat.add_mod_right]; exact Nat.mod_eq_of_lt hx
    · intro hx
      obtain ⟨j, hj, rfl⟩ := List.mem_map.1 hx
      have hj : j < n := by simpa using hj
      simpa using Nat.mod_lt _ (by omega)
  have := h.map (fun j => msOf raw j)
  rw [List.map_map] at this
  exact this
set_option maxHeartbeats 2000000 in
theorem same_law (raw : List R6) (a : Int) (hr : ∀ r ∈ raw, r.ok) (ha : InR a) (hlen : raw.length ≤ 9223372036854775807) : M 6 [Rs raw, .int a] (.bool true) := by
  have hml := Rl_length raw
  obtain ⟨n, hn⟩ : ∃ n, n = min raw.length 10 := ⟨_, rfl⟩
  have hn10 : n ≤ 10 := by omega
  have hnl : n ≤ raw.length := by omega
  have hpk := pick_range (c := a) (n := (n : Int) + 1) (by omega)
  obtain ⟨kk, hkk⟩ : ∃ kk : Nat, pick a ((n : Int) + 1) = kk := ⟨(pick a ((n : Int) + 1)).toNat, by omega⟩
  have hkn : kk ≤ n := by omega
  have S1 := fill_spec raw hr id n (by omega) (fun i h => ⟨by show i < _; omega, by show i < _; omega⟩) (fun i j _ _ h => h)
  have S2 := fill_spec raw hr (fun i => (i + kk) % n) n (by omega) (fun i h => by have := Nat.mod_lt (i + kk) (show 0 < n by omega); exact ⟨by show (i + kk) % n < _; omega, by show (i + kk) % n < _; omega⟩) (fun i j hi hj h => modinj hi hj h)
  refine go6 rfl rfl fun hb => ?_
  refine ⟨_, awake_ok, ?_⟩
  refine ⟨_, (new_ok 12 : M 9 [.int 12] (.tup [Qnil 12, .int 0])), ?_⟩
  refine ⟨_, (new_ok 12 : M 9 [.int 12] (.tup [Qnil 12, .int 0])), ?_⟩
  have e6 : min ((Rl raw).length : Int) 10 = (n : Int) := by rw [hml, hn]; omega
  have ew : IntKind.i64.wrap ((n : Int) + 1) = (n : Int) + 1 := wrap64 (by omega) (by omega)
  refine ⟨_, by rw [e6, ew]; exact pick13_ok a ((n : Int) + 1) ha (by omega), ?_⟩
  refine ⟨Nat, fun i => ⟨[(0, Rs raw), (1, .int a), (5, .bool true), (6, .int n), (7, .ref 999999 0), (8, .int 0), (9, .ref 999998 0), (10, .int 0), (11, .int kk), (12, .int i)],
      ⟨[(999999, .cells [.int 12, .d (.l (fill raw id i).ml)]), (999998, .cells [.int 12, .d (.l (fill raw (fun i => (i + kk) % n) i).ml)])], [], 900000, 0⟩⟩, fun i => i ≤ n, fun i => n - i, 0, Nat.zero_le _, ?_, ?_⟩
  · exact ⟨⟨L.le_refl _, L.le_refl _, L.le_refl _, L.le_of_eq (by rw [e6]), ⟨rfl, rfl⟩, L.le_refl _, ⟨rfl, rfl⟩, L.le_refl _, L.le_of_eq (by rw [hkk]), L.le_refl _, trivial⟩, ⟨⟨L.le_refl _, L.le_refl _, trivial⟩, ⟨L.le_refl _, L.le_refl _, trivial⟩, trivial⟩, rfl, rfl⟩
  · rintro i hi _
    refine ⟨fun hc => ?_, fun hc => ?_⟩
    · have hlt : i < n := by simpa using hc
      refine ⟨⟨rfl, by omega⟩, ?_⟩
      have hn0 : 0 < n := by omega
      have wi : IntKind.i64.wrap ((i : Int) + 1) = ((i + 1 : Nat) : Int) := by rw [wrap64 (by omega) (by omega)]; omega
      have et : (IntKind.i64.wrap ((i : Int) + (kk : Int))).tmod (n : Int) = (((i + kk) % n : Nat) : Int) := by
        rw [wrap64 (by omega) (by omega), Int.tmod_eq_emod_of_nonneg (by omega), Int.natCast_emod, Int.natCast_add]
      have hj : (i + kk) % n < n := Nat.mod_lt _ hn0
      obtain ⟨s1, s2, s3⟩ := S1 i hi
      obtain ⟨t1, t2, t3⟩ := S2 i hi
      have g1 : raw.getD i r0 = raw[i]'(by omega) := by simp [List.getD_eq_getElem?_getD, show i < raw.length by omega]
      have g2 : raw.getD ((i + kk) % n) r0 = raw[(i + kk) % n]'(by omega) := by simp [List.getD_eq_getElem?_getD, show (i + kk) % n < raw.length by omega]
      have wj : IntKind.i64.wrap ((((i + kk) % n : Nat) : Int) + 1) = (((i + kk) % n + 1 : Nat) : Int) := by rw [wrap64 (by omega) (by omega)]; omega
      have l1 := s2.length_eq
      have l2 := t2.length_eq
      simp only [List.length_map, List.length_range] at l1 l2
      refine ⟨(raw[i]'(by omega)).L, ⟨i, rfl, by simp [Rl_get, show i < raw.length by omega]⟩, ?_⟩
      refine ⟨_, by rw [wi, ← g1]; exact numd_ok (raw.getD i r0) (by rw [g1]; exact hr _ (List.getElem_mem _)) ((i + 1 : Nat) : Int), ?_⟩
      refine ⟨_, putN_ok (q := fill raw id i) (m := msOf raw i) (by show (fillL raw _ i).length ≤ _; omega) (s3 hlt) (insQ_ne _ _), ?_⟩
      refine ⟨rfl, ?_⟩
      refine ⟨(raw[(i + kk) % n]'(by omega)).L, ⟨(i + kk) % n, et, by simp [Rl_get, show (i + kk) % n < raw.length by omega]⟩, ?_⟩
      refine ⟨_, by rw [et, wj, ← g2]; exact numd_ok (raw.getD ((i + kk) % n) r0) (by rw [g2]; exact hr _ (List.getElem_mem _)) (((i + kk) % n + 1 : Nat) : Int), ?_⟩
      refine ⟨_, putN_ok (q := fill raw (fun i => (i + kk) % n) i) (m := msOf raw ((i + kk) % n)) (by show (fillL raw _ i).length ≤ _; omega) (t3 hlt) (insQ_ne _ _), ?_⟩
      refine ⟨rfl, ?_⟩
      refine ⟨nofun, fun _ => ?_⟩
      refine ⟨i + 1, hlt, by show n - (i + 1) < n - i; omega, ?_⟩
      exact ⟨⟨L.le_refl _, L.le_refl _, L.le_refl _, L.le_refl _, ⟨rfl, rfl⟩, L.le_refl _, ⟨rfl, rfl⟩, L.le_refl _, L.le_refl _, L.le_of_eq (by rw [wi]), trivial⟩, ⟨⟨L.le_refl _, L.le_refl _, trivial⟩, ⟨L.le_refl _, L.le_refl _, trivial⟩, trivial⟩, rfl, rfl⟩
    · have hin : i = n := by
        have : ¬ ((i : Int) < n) := by simpa using hc
        omega
      subst hin
      obtain ⟨s1, s2, _⟩ := S1 i (Nat.le_refl _)
      obtain ⟨t1, t2, _⟩ := S2 i (Nat.le_refl _)
      have hAB : fillL raw id i = fillL raw (fun j => (j + kk) % i) i := srt_perm s1.srt t1.srt (s2.trans ((perm_mod raw i kk hkn).trans t2.symm))
      have l1 := s2.length_eq
      simp only [List.length_map, List.length_range] at l1
      obtain ⟨A, hA⟩ : ∃ A, A = fillL raw id i := ⟨_, rfl⟩
      rw [← hA] at hAB l1
      have s1 : Good ⟨12, A⟩ := by rw [hA]; exact s1
      have hnum : ∀ x ∈ A, x.number ≤ 10 := by
        intro x hx
        rw [hA] at hx
        obtain ⟨j, hj, rfl⟩ := List.mem_map.1 (s2.mem_iff.1 hx)
        have hj : j < i := by simpa using hj
        show ((j + 1 : Nat) : Int) ≤ 10
        omega
      have hm99 : (numd ⟨a, a, a, a, a, a⟩ 99).right = true := numd_right ⟨ha, ha, ha, ha, ha, ha⟩ (by omega) (by omega)
      have hnn : (numd ⟨a, a, a, a, a, a⟩ 99).number ∉ nums A := fun h => by
        obtain ⟨x, hx, e⟩ := List.mem_map.1 h
        have h1 := hnum x hx
        have h2 : x.number = 99 := e
        omega
      obtain ⟨p1, p2⟩ := s1.put hm99 hnn (by show (A.length : Int) < 12; omega)
      obtain ⟨C, hC⟩ : ∃ C, C = insQ A (numd ⟨a, a, a, a, a, a⟩ 99) := ⟨_, rfl⟩
      simp only at p1 p2
      rw [← hC] at p1 p2
      have hpC : C.Perm (numd ⟨a, a, a, a, a, a⟩ 99 :: A) := by rw [hC]; exact insQ_perm _ _
      have lC := hpC.length_eq
      simp only [List.length_cons] at lC
      obtain ⟨x99, hx1, hx2, hx3⟩ := p2.one (n := 99) (List.mem_map.2 ⟨_, hpC.mem_iff.2 (List.mem_cons_self ..), rfl⟩)
      have hfil : C.filter (fun m => !(m.number == 99)) = A := by
        refine srt_perm (p2.one' (n := 99)).srt s1.srt ((hpC.filter _).trans ?_)
        rw [List.filter_cons, if_neg (by show ¬ (!((99 : Int) == 99)) = true; simp)]
        rw [List.filter_eq_self.2 fun x hx => by have := hnum x hx; simp; omega]
      have hab := toN (abort_ok ⟨12, C⟩ 99 (by show C.length ≤ _; omega))
      rw [takenR, hx3] at hab
      simp only [hfil] at hab
      have qa : fill raw id i = ⟨12, A⟩ := by rw [hA]
      have qb : fill raw (fun j => (j + kk) % i) i = ⟨12, A⟩ := by rw [hAB]
      rw [qa, qb]
      refine ⟨_, numd_ok ⟨a, a, a, a, a, a⟩ ⟨ha, ha, ha, ha, ha, ha⟩ 99, ?_⟩
      refine ⟨_, putN_ok (q := ⟨12, A⟩) (m := numd ⟨a, a, a, a, a, a⟩ 99) (by show A.length ≤ _; omega) p1 (by show C ≠ []; intro e; rw [e] at lC; simp at lC), ?_⟩
      refine ⟨rfl, ?_⟩
      refine ⟨_, hab, ?_⟩
      have hfirst : M 15 [Que.N ⟨12, A⟩] (.tup [(A.headD dmsg).V, .bool (decide (0 < i))]) := by
        have := toN (first_ok ⟨12, A⟩ (by show A.length ≤ _; omega))
        rw [firstR, s1.isRight] at this
        cases A with
        | nil => rw [show decide (0 < i) = false by rw [← l1]; rfl]; exact this
        | cons x l => rw [show decide (0 < i) = true by rw [← l1]; simp]; exact this
      obtain ⟨B, e9, htake, hb0⟩ : ∃ (B : List Msg) (e9 : Int), M 17 [Que.N ⟨12, A⟩] (.tup [Que.V ⟨12, B⟩, (A.headD dmsg).V, .int e9]) ∧ (e9 == 0) = decide (0 < i) := by
        have := toN (take_ok ⟨12, A⟩ (by show A.length ≤ _; omega))
        rw [takenR] at this
        cases hAc : A with
        | nil =>
          rw [hAc] at this s1 l1
          rw [s1.none rfl] at this
          exact ⟨[], 41, this, by rw [← l1]; rfl⟩
        | cons x l =>
          rw [hAc] at this s1 l1
          rw [(s1.head rfl).1] at this
          exact ⟨l, 0, this, by rw [← l1]; simp⟩
      refine ⟨_, hfirst, ?_⟩
      refine ⟨_, htake, ?_⟩
      have hsm : ∀ q : Que, q.same q = true := fun q => by rw [Que.same, (sameL_iff _ _).2 rfl]; simp
      refine ⟨_, fun _ => by have := toN (toN2 (qsame_ok ⟨12, A⟩ ⟨12, A⟩)); rw [hsm] at this; exact this, ?_⟩
      refine ⟨_, fun _ => by have := toN2 (qsame_ok ⟨12, A⟩ ⟨12, A⟩); rw [hsm] at this; exact this, ?_⟩
      refine ⟨⟨L.le_of_eq ?_, trivial⟩, trivial, rfl, rfl⟩
      simp [hx2, hb0, eqCells, eqC]
end Go.Proofs.YthcbdpghfefnlaaDoor
