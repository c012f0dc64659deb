/-
  Layer 13: raw queues; the law TxqAborts.
-/
import Derived.Test.YthcbdpghfefnlaaDoorOU13
set_option linter.unusedVariables false
set_option linter.unusedSimpArgs false
set_option maxRecDepth 100000
namespace Go.Proofs.YthcbdpghfefnlaaDoor
open Go Go.Proofs.YthcbdpghfefnlaaDoor.Abs

theorem Good.full' {q : Que} {m : Msg} (h : Good q) (hm : m.right = true) (hn : m.number ∉ nums q.msgs) (hl : (q.msgs.length : Int) = q.lim) : putR q m = (q, 40) := by
  rw [putR, if_neg (by simp [h.isRight, hm]), if_neg, if_pos hl]
  rcases findN_cases (fun x => x.number == m.number) q.msgs with ⟨h1, h2⟩ | ⟨k, hk, h1, h2, h3⟩
  · omega
  · exact absurd (List.mem_map.2 ⟨_, List.getElem_mem hk, by simpa using h2⟩) hn
/-- a raw queue -/
def quF (lim : Int) (raw : List R6) : Nat → Que
  | 0 => ⟨lim, []⟩
  | i + 1 => (putR (quF lim raw i) (msOf raw i)).1
theorem quF_spec {lim : Int} (hl : 1 ≤ lim ∧ lim ≤ 32) (raw : List R6) (hr : ∀ r ∈ raw, r.ok) : ∀ i, i ≤ raw.length → i ≤ 12 → Good (quF lim raw i) ∧ (quF lim raw i).lim = lim ∧ (∀ x ∈ (quF lim raw i).msgs, ∃ j, j < i ∧ x = msOf raw j) ∧ (0 < i → (quF lim raw i).msgs ≠ []) := by
  intro i
  induction i with
  | zero => exact fun _ _ => ⟨Good.new (by simp [mayB]; omega), rfl, by simp [quF], fun h => by omega⟩
  | succ i ih =>
    intro h1 h2
    obtain ⟨a, b, c, d⟩ := ih (by omega) (by omega)
    have hm : (msOf raw i).right = true := by
      have e : raw.getD i r0 = raw[i] := by simp [List.getD_eq_getElem?_getD, show i < raw.length by omega]
      rw [msOf, e]
      exact numd_right (hr _ (List.getElem_mem _)) (by omega) (by omega)
    have hno : (msOf raw i).number ∉ nums (quF lim raw i).msgs := fun h => by
      obtain ⟨x, hx, e⟩ := List.mem_map.1 h
      obtain ⟨j, hj, rfl⟩ := c x hx
      have e : (((j + 1 : Nat) : Int)) = ((i + 1 : Nat) : Int) := e
      omega
    have hlen := a.len
    by_cases hf : ((quF lim raw i).msgs.length : Int) = (quF lim raw i).lim
    · have e : quF lim raw (i + 1) = quF lim raw i := by rw [quF, a.full' hm hno hf]
      rw [e]
      refine ⟨a, b, fun x hx => ?_, fun _ h => ?_⟩
      · obtain ⟨j, hj, e⟩ := c x hx; exact ⟨j, by omega, e⟩
      · rw [h, b] at hf; simp at hf; omega
    · obtain ⟨p1, p2⟩ := a.put hm hno (by omega)
      have e : quF lim raw (i + 1) = ⟨(quF lim raw i).lim, insQ (quF lim raw i).msgs (msOf raw i)⟩ := by rw [quF, p1]
      rw [e]
      refine ⟨p2, b, fun x hx => ?_, fun _ => insQ_ne _ _⟩
      rcases List.mem_cons.1 ((insQ_perm _ _).mem_iff.1 hx) with rfl | hx
      · exact ⟨i, by omega, rfl⟩
      · obtain ⟨j, hj, e⟩ := c x hx; exact ⟨j, by omega, e⟩
theorem Good.len32 {q : Que} (h : Good q) : q.msgs.length ≤ 32 := by
  have h1 := h.len
  have h2 := h.may
  simp [mayB] at h2
  omega
def queue (a : Int) (raw : List R6) : Que := quF (1 + pick a 32) raw (min raw.length 12)
theorem queue_spec (a : Int) (raw : List R6) (hr : ∀ r ∈ raw, r.ok) : Good (queue a raw) ∧ ∀ x ∈ (queue a raw).msgs, ∃ j, j < min raw.length 12 ∧ x = msOf raw j := by
  have hpk := pick_range (c := a) (n := 32) (by omega)
  obtain ⟨h1, _, h3, _⟩ := quF_spec (lim := 1 + pick a 32) ⟨by omega, by omega⟩ raw hr (min raw.length 12) (by omega) (by omega)
  exact ⟨h1, h3⟩
theorem queue_ok (a : Int) (raw : List R6) (ha : InR a) (hr : ∀ r ∈ raw, r.ok) : M 12 [.int a, Rs raw] (queue a raw).N := by
  have hml := Rl_length raw
  have hpk := pick_range (c := a) (n := 32) (by omega)
  obtain ⟨lim, hlim⟩ : ∃ lim, lim = 1 + pick a 32 := ⟨_, rfl⟩
  obtain ⟨n, hn⟩ : ∃ n, n = min raw.length 12 := ⟨_, rfl⟩
  have hn12 : n ≤ 12 := by omega
  have hnr : n ≤ raw.length := by omega
  have S := quF_spec (lim := lim) ⟨by omega, by omega⟩ raw hr
  have hmay : mayB lim = true := by simp [mayB]; omega
  rw [queue, ← hlim, ← hn]
  refine go12 rfl rfl fun hb => ?_
  refine ⟨_, pick13_ok a 32 ha (by omega), ?_⟩
  refine ⟨_, by rw [wrap64 (by omega) (by omega), ← hlim]; have := newRef_ok lim; rw [hmay] at this; exact this, ?_⟩
  refine ⟨Nat, fun i => ⟨[(1, Rs raw), (4, .ref 999999 0), (5, .ref 999998 0), (7, .int i)], ⟨[(999999, .cells [.any, .any]), (999998, .cells [.int (quF lim raw i).lim, .d (.l (quF lim raw i).ml)])], [], 900000, 0⟩⟩, fun i => i ≤ n, fun i => n - i, 0, Nat.zero_le _, ?_, ?_⟩
  · exact ⟨⟨L.le_refl _, ⟨rfl, rfl⟩, ⟨rfl, rfl⟩, L.le_refl _, trivial⟩, ⟨⟨trivial, trivial, trivial⟩, ⟨L.le_refl _, L.le_refl _, trivial⟩, trivial⟩, rfl, rfl⟩
  · rintro i hi _
    refine ⟨fun hc => ?_, fun hc => ?_⟩
    · have hlt : i < n := by
        have : i < raw.length ∧ i < 12 := by
          revert hc; rw [hml]
          by_cases h1 : i < raw.length <;> simp [h1] <;> omega
        omega
      obtain ⟨s1, s2, s3, s4⟩ := S i (by omega) (by omega)
      obtain ⟨t1, t2, t3, t4⟩ := S (i + 1) (by omega) (by omega)
      have hl32 := s1.len32
      have wi : IntKind.i64.wrap ((i : Int) + 1) = ((i + 1 : Nat) : Int) := by rw [wrap64 (by omega) (by omega)]; omega
      have g1 : raw.getD i r0 = raw[i]'(by omega) := by simp [List.getD_eq_getElem?_getD, show i < raw.length by omega]
      refine ⟨(raw[i]'(by omega)).L, ⟨i, rfl, by simp [Rl_get, show i < raw.length by omega]⟩, ?_⟩
      refine ⟨_, by rw [wi, ← g1]; exact numd_ok (raw.getD i r0) (by rw [g1]; exact hr _ (List.getElem_mem _)) ((i + 1 : Nat) : Int), ?_⟩
      refine ⟨_, toN (putRef_ok (quF lim raw i) (msOf raw i) (by omega)), ?_⟩
      refine ⟨rfl, ?_⟩
      refine ⟨i + 1, hlt, by show n - (i + 1) < n - i; omega, ?_⟩
      exact ⟨⟨L.le_refl _, ⟨rfl, rfl⟩, ⟨rfl, rfl⟩, L.le_of_eq (by rw [wi]), trivial⟩, ⟨⟨trivial, trivial, trivial⟩, ⟨L.le_refl _, le_ml (q := quF lim raw (i + 1)) (t4 (by omega)), trivial⟩, trivial⟩, rfl, rfl⟩
    · have hin : i = n := by
        have : ¬ (i < raw.length ∧ i < 12) := by
          rintro ⟨h1, h2⟩
          revert hc; rw [hml]
          have h2' : (i : Int) < 12 := by omega
          simp [h1, h2']
        omega
      subst hin
      exact ⟨⟨⟨L.le_refl _, L.le_refl _, trivial⟩, trivial⟩, trivial, rfl, rfl⟩
theorem len_filter' {k : Int} : ∀ {qs : List Msg}, (nums qs).Nodup → k ∈ nums qs → (qs.filter fun m => m.number == k).length = 1
  | [], _, h => by simp [nums] at h
  | x :: l, nd, h => by
    simp only [nums, List.map_cons, List.nodup_cons] at nd
    by_cases e : x.number = k
    · have : l.filter (fun m => m.number == k) = [] := List.filter_eq_nil_iff.2 fun y hy => by
        have : y.number ≠ k := fun e' => nd.1 (by rw [e, ← e']; exact List.mem_map.2 ⟨y, hy, rfl⟩)
        simpa using this
      rw [List.filter_cons, if_pos (by simp [e]), this]
      rfl
    · have hk : k ∈ nums l := by
        simp only [nums, List.map_cons, List.mem_cons] at h
        rcases h with h | h
        · exact absurd h.symm e
        · exact h
      rw [List.filter_cons, if_neg (by simp [e]), len_filter' nd.2 hk]
theorem filter_take {α : Type} (l : List α) (p : α → Bool) (i : Nat) (h : i < l.length) : (l.take (i + 1)).filter p = (l.take i).filter p ++ (if p l[i] then [l[i]] else []) := by
  rw [List.take_succ_eq_append_getElem h, List.filter_append]
  cases hp : p l[i] <;> simp [hp]
/-- what Abort answers -/
theorem Good.abort {q : Que} (h : Good q) (k : Int) : ∃ (x : Msg) (e : Int), takenT q (fun m => m.number == k) = (⟨q.lim, q.msgs.filter fun m => !(m.number == k)⟩, x, e) ∧ (e == 0) = decide (k ∈ nums q.msgs) ∧ (∀ y ∈ q.msgs, y.number = k → y = x) ∧ (k ∉ nums q.msgs → e = 41 ∧ x = dmsg) ∧
    (q.msgs.filter fun m => m.number == k).length = if k ∈ nums q.msgs then 1 else 0 := by
  by_cases hk : k ∈ nums q.msgs
  · obtain ⟨x, h1, h2, h3⟩ := h.one hk
    refine ⟨x, 0, h3, by simp [hk], fun y hy e => ?_, fun hn => absurd hk hn, ?_⟩
    · obtain ⟨i, hi, rfl⟩ := List.getElem_of_mem hy
      obtain ⟨j, hj, rfl⟩ := List.getElem_of_mem h1
      have nd := h.nd
      rw [nums, List.Nodup, List.pairwise_map, List.pairwise_iff_getElem] at nd
      rcases Nat.lt_trichotomy i j with hij | hij | hij
      · exact absurd (e.trans h2.symm) (nd i j hi hj hij)
      · subst hij; rfl
      · exact absurd (h2.trans e.symm) (nd j i hj hi hij)
    · rw [if_pos hk]
      have h4 := len_filter' h.nd hk
      exact h4
  · refine ⟨dmsg, 41, ?_, by simp [hk], fun y hy e => absurd (List.mem_map.2 ⟨y, hy, e⟩) hk, fun _ => ⟨rfl, rfl⟩, ?_⟩
    · rw [h.away hk, List.filter_eq_self.2 fun x hx => by
        have : x.number ≠ k := fun e => hk (List.mem_map.2 ⟨x, hx, e⟩)
        simpa using this]
    · rw [if_neg hk, List.filter_eq_nil_iff.2 fun x hx => by
        have : x.number ≠ k := fun e => hk (List.mem_map.2 ⟨x, hx, e⟩)
        simpa using this]
      rfl
set_option maxHeartbeats 2000000 in
theorem aborts_law (a : Int) (raw : List R6) (b : Int) (ha : InR a) (hr : ∀ r ∈ raw, r.ok) (hb' : InR b) : M 7 [.int a, Rs raw, .int b] (.bool true) := by
  obtain ⟨hg, hof⟩ := queue_spec a raw hr
  obtain ⟨q, hq⟩ : ∃ q, q = queue a raw := ⟨_, rfl⟩
  have hqu := queue_ok a raw ha hr
  rw [← hq] at hg hof hqu
  have hl32 := hg.len32
  have hml := Ml_length q.msgs
  obtain ⟨k, hk⟩ : ∃ k, k = pick b 14 := ⟨_, rfl⟩
  obtain ⟨x, e, hT, he, hx, hne, hcnt⟩ := hg.abort k
  have hab := toN (abort_ok q k (by omega))
  rw [takenR, hT] at hab
  refine go7 rfl rfl fun hb => ?_
  refine ⟨_, awake_ok, ?_⟩
  refine ⟨_, hqu, ?_⟩
  refine ⟨_, by have := pick13_ok b 14 hb' (by omega); rw [← hk] at this; exact this, ?_⟩
  refine ⟨_, hab, ?_⟩
  refine ⟨Nat, fun i => ⟨[(7, .bool true), (8, .ref 999999 0), (9, .int k), (10, .ref 999998 0), (11, .ref 999997 0), (12, .int e), (13, .own 950000 7 (Ml ((q.msgs.take i).filter fun m => !(m.number == k)))), (14, .int ((q.msgs.take i).filter fun m => m.number == k).length), (15, .int i)],
      ⟨[(999999, .cells [.int q.lim, Ms q.msgs]), (999998, .cells [.int q.lim, Ms (q.msgs.filter fun m => !(m.number == k))]), (999997, .cells x.C)], [950000], 900000, 0⟩⟩, fun i => i ≤ q.msgs.length, fun i => q.msgs.length - i, 0, Nat.zero_le _, ?_, ?_⟩
  · exact ⟨⟨L.le_refl _, ⟨rfl, rfl⟩, L.le_refl _, ⟨rfl, rfl⟩, ⟨rfl, rfl⟩, L.le_refl _, rfl, L.le_refl _, L.le_refl _, trivial⟩, ⟨⟨L.le_refl _, ml_le q, trivial⟩, ⟨L.le_refl _, L.le_refl _, trivial⟩, ⟨L.le_refl _, L.le_refl _, L.le_refl _, L.le_refl _, L.le_refl _, L.le_refl _, L.le_refl _, trivial⟩, trivial⟩, rfl, rfl⟩
  · rintro i hi _
    have hi : i ≤ q.msgs.length := hi
    refine ⟨fun hc => ?_, fun hc => ?_⟩
    · have hlt : i < q.msgs.length := by rw [hml] at hc; simpa using hc
      have wi : IntKind.i64.wrap ((i : Int) + 1) = ((i + 1 : Nat) : Int) := by rw [wrap64 (by omega) (by omega)]; omega
      have f1 := filter_take q.msgs (fun m => !(m.number == k)) i hlt
      have f2 := filter_take q.msgs (fun m => m.number == k) i hlt
      have lf1 : ((q.msgs.take i).filter fun m => !(m.number == k)).length ≤ i := Nat.le_trans (List.length_filter_le _ _) (by simp; omega)
      have lf2 : ((q.msgs.take i).filter fun m => m.number == k).length ≤ i := Nat.le_trans (List.length_filter_le _ _) (by simp; omega)
      refine ⟨q.msgs[i].L, ⟨i, rfl, by simp [Ml_get, hlt]⟩, ?_⟩
      refine ⟨fun h => ?_, fun h => ?_⟩
      · have hkn : q.msgs[i].number = k := by simpa using h
        have hxx := hx _ (List.getElem_mem hlt) hkn
        refine ⟨q.msgs[i].L, ⟨i, rfl, by simp [Ml_get, hlt]⟩, ?_⟩
        refine ⟨rfl, ?_⟩
        refine ⟨fun h2 => ?_, fun h2 => ?_⟩
        · exfalso
          revert h2
          rw [hxx]
          simp [eqCells, eqC]
        · refine ⟨i + 1, hlt, by show q.msgs.length - (i + 1) < q.msgs.length - i; omega, ?_⟩
          have w2 : IntKind.i64.wrap ((((q.msgs.take i).filter fun m => m.number == k).length : Int) + 1) = ((((q.msgs.take (i + 1)).filter fun m => m.number == k).length : Nat) : Int) := by
            rw [wrap64 (by omega) (by omega), f2, if_pos (by simpa using hkn)]; simp
          exact ⟨⟨L.le_refl _, ⟨rfl, rfl⟩, L.le_refl _, ⟨rfl, rfl⟩, ⟨rfl, rfl⟩, L.le_refl _, ⟨rfl, L.le_of_eq (by rw [f1, if_neg (by simpa using hkn), List.append_nil])⟩, L.le_of_eq (congrArg L.int w2), L.le_of_eq (by rw [wi]), trivial⟩, ⟨⟨L.le_refl _, L.le_refl _, trivial⟩, ⟨L.le_refl _, L.le_refl _, trivial⟩, ⟨L.le_refl _, L.le_refl _, L.le_refl _, L.le_refl _, L.le_refl _, L.le_refl _, L.le_refl _, trivial⟩, trivial⟩, rfl, rfl⟩
      · have hkn : ¬ q.msgs[i].number = k := by simpa using h
        have hml2 : Ml ((q.msgs.take (i + 1)).filter fun m => !(m.number == k)) = Ml ((q.msgs.take i).filter fun m => !(m.number == k)) ++ [q.msgs[i].L] := by
          rw [f1, if_pos (by simpa using hkn)]; simp [Ml]
        have hf2 : ((q.msgs.take (i + 1)).filter fun m => m.number == k) = (q.msgs.take i).filter fun m => m.number == k := by rw [f2, if_neg (by simpa using hkn), List.append_nil]
        refine ⟨q.msgs[i].L, ⟨i, rfl, by simp [Ml_get, hlt]⟩, ?_⟩
        refine ⟨by rw [Ml_length]; show (_ + 1) * 64 ≤ _; omega, ?_⟩
        refine ⟨i + 1, hlt, by show q.msgs.length - (i + 1) < q.msgs.length - i; omega, ?_⟩
        exact ⟨⟨L.le_refl _, ⟨rfl, rfl⟩, L.le_refl _, ⟨rfl, rfl⟩, ⟨rfl, rfl⟩, L.le_refl _, ⟨rfl, L.le_of_eq (by rw [hml2]; rfl)⟩, L.le_of_eq (by rw [hf2]), L.le_of_eq (by rw [wi]), trivial⟩, ⟨⟨L.le_refl _, L.le_refl _, trivial⟩, ⟨L.le_refl _, L.le_refl _, trivial⟩, ⟨L.le_refl _, L.le_refl _, L.le_refl _, L.le_refl _, L.le_refl _, L.le_refl _, L.le_refl _, trivial⟩, trivial⟩, rfl, rfl⟩
    · have hin : i = q.msgs.length := by
        have : ¬ ((i : Int) < q.msgs.length) := by rw [hml] at hc; simpa using hc
        omega
      have e1 : q.msgs.take i = q.msgs := by rw [hin]; exact List.take_length
      rw [e1]
      have hsame := same_ok (q.msgs.filter fun m => !(m.number == k)) (q.msgs.filter fun m => !(m.number == k))
      rw [(sameL_iff _ _).2 rfl] at hsame
      refine ⟨_, fun _ => hsame, ?_⟩
      refine ⟨⟨L.le_of_eq ?_, trivial⟩, trivial, rfl, rfl⟩
      by_cases hkm : k ∈ nums q.msgs
      · rw [hcnt, if_pos hkm, he, decide_eq_true hkm]
        simp
      · obtain ⟨h41, hdm⟩ := hne hkm
        rw [hcnt, if_neg hkm, h41, hdm]
        have : dmsg.same dmsg = true := (Msg.same_iff _ _).2 rfl
        simp
        exact this
end Go.Proofs.YthcbdpghfefnlaaDoor
