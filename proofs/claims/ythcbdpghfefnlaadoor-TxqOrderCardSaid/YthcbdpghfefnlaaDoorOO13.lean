/-
  Layer 13: the law TxqOrder.
-/
import Derived.Test.YthcbdpghfefnlaaDoorOL13
set_option linter.unusedVariables false
set_option linter.unusedSimpArgs false
set_option maxRecDepth 100000
namespace Go.Proofs.YthcbdpghfefnlaaDoor
open Go Go.Proofs.YthcbdpghfefnlaaDoor.Abs

def Gl (l : List Int) : List (List L) := l.map fun z => [L.int z]
theorem Gl_length (l : List Int) : (Gl l).length = l.length := by simp [Gl]
theorem Gl_get (l : List Int) (k : Nat) : (Gl l)[k]? = (l[k]?).map fun z => [L.int z] := by simp [Gl]
abbrev Gs' (l : List Int) : V := .d (.l (.sl 1 (Gl l)))
/-- which numbers are there -/
def Lv (qs : List Msg) : List (List L) := (List.range 13).map fun (k : Nat) => [L.bool (decide ((k : Int) ∈ nums qs))]
theorem Lv_length (qs : List Msg) : (Lv qs).length = 13 := by simp [Lv]
theorem Lv_get (qs : List Msg) (k : Nat) (h : k < 13) : (Lv qs)[k]? = some [L.bool (decide ((k : Int) ∈ nums qs))] := by simp [Lv, h]
theorem Lv_set (qs qs' : List Msg) (k : Nat) (b : Bool) (h : k < 13) (hb : decide ((k : Int) ∈ nums qs') = b) (ho : ∀ j : Nat, j < 13 → j ≠ k → ((j : Int) ∈ nums qs ↔ (j : Int) ∈ nums qs')) : (Lv qs).set k [L.bool b] = Lv qs' := by
  apply List.ext_getElem?
  intro j
  by_cases hj : j < 13
  · rw [List.getElem?_set, Lv_get qs' j hj]
    split
    · rename_i e; subst e; rw [hb, if_pos (by rw [Lv_length]; exact hj)]
    · rename_i e
      rw [Lv_get qs j hj]
      have := ho j hj (fun h => e h.symm)
      simp [this]
  · rw [List.getElem?_eq_none (by simp [Lv_length]; omega), List.getElem?_eq_none (by simp [Lv_length]; omega)]
/-- what is in the queue -/
structure Inv (raw : List R6) (n : Nat) (qs : List Msg) : Prop where
  good : Good ⟨12, qs⟩
  of : ∀ x ∈ qs, ∃ i, i < n ∧ x = msOf raw i
theorem Inv.len {raw : List R6} {n : Nat} {qs : List Msg} (h : Inv raw n qs) : qs.length ≤ 12 := by
  have := h.good.len
  simp only at this
  omega
theorem Inv.sub {raw : List R6} {n : Nat} {qs ks : List Msg} (h : Inv raw n qs) (hs : ks.Sublist qs) : Inv raw n ks := ⟨h.good.sub hs, fun x hx => h.of x (hs.subset hx)⟩
theorem msOf_num (raw : List R6) (i : Nat) : (msOf raw i).number = ((i + 1 : Nat) : Int) := rfl

theorem nums_filter (qs : List Msg) (k z : Int) : z ∈ nums (qs.filter fun m => !(m.number == k)) ↔ z ∈ nums qs ∧ z ≠ k := by
  constructor
  · intro h
    obtain ⟨x, hx, rfl⟩ := List.mem_map.1 h
    obtain ⟨h1, h2⟩ := List.mem_filter.1 hx
    exact ⟨List.mem_map.2 ⟨x, h1, rfl⟩, by simpa using h2⟩
  · rintro ⟨h, h2⟩
    obtain ⟨x, hx, rfl⟩ := List.mem_map.1 h
    exact List.mem_map.2 ⟨x, List.mem_filter.2 ⟨hx, by simpa using h2⟩, rfl⟩
theorem len_filter {k : Int} : ∀ {qs : List Msg}, (nums qs).Nodup → k ∈ nums qs → qs.length = (qs.filter fun m => !(m.number == k)).length + 1
  | [], _, h => by simp [nums] at h
  | x :: l, nd, h => by
    simp only [nums, List.map_cons, List.nodup_cons] at nd
    by_cases e : x.number = k
    · have : l.filter (fun m => !(m.number == k)) = l := List.filter_eq_self.2 fun y hy => by
        have : y.number ≠ k := fun e' => nd.1 (by rw [e, ← e']; exact List.mem_map.2 ⟨y, hy, rfl⟩)
        simpa using this
      rw [List.filter_cons, if_neg (by simp [e]), this]
      rfl
    · have hk : k ∈ nums l := by
        simp only [nums, List.map_cons, List.mem_cons] at h
        rcases h with h | h
        · exact absurd h.symm e
        · exact h
      rw [List.filter_cons, if_pos (by simp [e]), List.length_cons, List.length_cons, len_filter nd.2 hk]
set_option maxHeartbeats 4000000 in
theorem order_law (raw : List R6) (gone : List Int) (hr : ∀ r ∈ raw, r.ok) (hg : ∀ z ∈ gone, InR z) : M 4 [Rs raw, Gs' gone] (.bool true) := by
  have hml := Rl_length raw
  have hgl := Gl_length gone
  obtain ⟨n, hn⟩ : ∃ n, n = min raw.length 12 := ⟨_, rfl⟩
  have hn12 : n ≤ 12 := by omega
  have S := fill_spec raw hr id n hn12 (fun i h => ⟨by show i < _; omega, by show i < _; omega⟩) (fun i j _ _ h => h)
  have hof : ∀ i, i ≤ n → Inv raw n (fillL raw id i) := fun i hi => ⟨(S i hi).1, fun x hx => by
    obtain ⟨j, hj, rfl⟩ := List.mem_map.1 ((S i hi).2.1.mem_iff.1 hx)
    exact ⟨j, by have : j < i := by simpa using hj
                 omega, rfl⟩⟩
  refine gb4 [(8, 0)] [] rfl rfl fun hb => ?_
  refine ⟨_, awake_ok, ?_⟩
  refine ⟨_, (new_ok 12 : M 9 [.int 12] (.tup [Qnil 12, .int 0])), ?_⟩
  refine ⟨nofun, fun _ => ?_⟩
  refine ⟨Nat, fun i => ⟨[(0, Rs raw), (1, Gs' gone), (5, .bool true), (6, .ref 999999 0), (8, .er 999998 1 0 0), (9, .int i), (10, .int i)],
      ⟨[(999999, .cells [.int 12, .d (.l (fill raw id i).ml)]), (999998, .arr 1 (Lv (fillL raw id i)) false)], [], 900000, 0⟩⟩, fun i => i ≤ n, fun i => n - i, 0, Nat.zero_le _, ?_, ?_⟩
  · exact ⟨⟨L.le_refl _, L.le_refl _, L.le_refl _, ⟨rfl, rfl⟩, ⟨rfl, rfl, rfl, rfl⟩, L.le_refl _, L.le_refl _, trivial⟩, ⟨⟨L.le_refl _, L.le_refl _, trivial⟩, ⟨rfl, ⟨[], by rfl⟩, nofun⟩, trivial⟩, rfl, rfl⟩
  · rintro i hi _
    refine ⟨fun hc => ?_, fun hc => ?_⟩
    · have hlt : i < n := by
        have : i < raw.length ∧ i < 12 := by
          revert hc; rw [hml]
          by_cases h1 : i < raw.length <;> simp [h1] <;> omega
        omega
      obtain ⟨s1, s2, s3⟩ := S i hi
      have wi : IntKind.i64.wrap ((i : Int) + 1) = ((i + 1 : Nat) : Int) := by rw [wrap64 (by omega) (by omega)]; omega
      have g1 : raw.getD i r0 = raw[i]'(by omega) := by simp [List.getD_eq_getElem?_getD, show i < raw.length by omega]
      have l1 := s2.length_eq
      simp only [List.length_map, List.length_range] at l1
      refine ⟨(raw[i]'(by omega)).L, ⟨i, rfl, by simp [Rl_get, show i < raw.length by omega]⟩, ?_⟩
      refine ⟨_, by rw [wi, ← g1]; exact numd_ok (raw.getD i r0) (by rw [g1]; exact hr _ (List.getElem_mem _)) ((i + 1 : Nat) : Int), ?_⟩
      refine ⟨_, putN_ok (q := fill raw id i) (m := msOf raw i) (by show (fillL raw _ i).length ≤ _; omega) (s3 hlt) (insQ_ne _ _), ?_⟩
      refine ⟨rfl, ?_⟩
      refine ⟨nofun, fun _ => ?_⟩
      refine ⟨i + 1, ⟨wi, by omega⟩, ?_⟩
      refine ⟨by rw [Lv_length]; omega, ?_⟩
      refine ⟨i + 1, hlt, by show n - (i + 1) < n - i; omega, ?_⟩
      have hset : (Lv (fillL raw id i)).set (0 + (i + 1)) [L.bool true] = Lv (fillL raw id (i + 1)) := by
        have hp : ∀ z : Int, z ∈ nums (fillL raw id (i + 1)) ↔ z = ((i + 1 : Nat) : Int) ∨ z ∈ nums (fillL raw id i) := fun z => by
          have hq : (nums (fillL raw id (i + 1))).Perm (((i + 1 : Nat) : Int) :: nums (fillL raw id i)) := (insQ_perm (fillL raw id i) (msOf raw i)).map Msg.number
          rw [hq.mem_iff, List.mem_cons]
        rw [Nat.zero_add]
        refine Lv_set _ _ (i + 1) true (by omega) (by simp only [decide_eq_true_eq]; exact (hp _).2 (.inl rfl)) fun j hj hne => ?_
        rw [hp]
        constructor
        · exact .inr
        · rintro (h | h)
          · omega
          · exact h
      exact ⟨⟨L.le_refl _, L.le_refl _, L.le_refl _, ⟨rfl, rfl⟩, ⟨rfl, rfl, rfl, rfl⟩, L.le_of_eq (by rw [wi]), L.le_of_eq (by rw [wi]), trivial⟩, ⟨⟨L.le_refl _, L.le_refl _, trivial⟩, ⟨rfl, ⟨[], by rw [List.append_nil]; exact hset⟩, nofun⟩, trivial⟩, rfl, rfl⟩
    · have hin : i = n := by
        have : ¬ (i < raw.length ∧ i < 12) := by
          rintro ⟨h1, h2⟩
          revert hc; rw [hml]
          have h2' : (i : Int) < 12 := by omega
          simp [h1, h2']
        omega
      subst hin
      have hq0 := hof i (Nat.le_refl _)
      have hl0 : (fillL raw id i).length = i := by have := (S i (Nat.le_refl _)).2.1.length_eq; simpa using this
      refine ⟨Nat × List Msg, fun p => ⟨[(0, Rs raw), (1, Gs' gone), (5, .bool true), (6, .ref 999999 0), (8, .er 999998 1 0 0), (9, .int p.2.length), (13, .int p.1)],
        ⟨[(999999, .cells [.int 12, Ms p.2]), (999998, .arr 1 (Lv p.2) false)], [], 800000, 0⟩⟩, fun p => Inv raw i p.2, fun p => 12 - p.1, (0, fillL raw id i), hq0, ?_, ?_⟩
      · exact ⟨⟨L.le_refl _, L.le_refl _, L.le_refl _, ⟨rfl, rfl⟩, ⟨rfl, rfl, rfl, rfl⟩, L.le_of_eq (by rw [hl0]), L.le_refl _, trivial⟩, ⟨⟨L.le_refl _, ml_le (fill raw id i), trivial⟩, ⟨rfl, ⟨[], by rw [List.append_nil]⟩, nofun⟩, trivial⟩, rfl, rfl⟩
      · rintro ⟨j, qs⟩ hI _
        have hI : Inv raw i qs := hI
        have hl12 := hI.len
        refine ⟨fun hc => ?_, fun hc => ?_⟩
        · have hlt : j < gone.length ∧ j < 12 := by
            revert hc; rw [hgl]
            by_cases h1 : j < gone.length <;> simp [h1] <;> omega
          have wj : IntKind.i64.wrap ((j : Int) + 1) = ((j + 1 : Nat) : Int) := by rw [wrap64 (by omega) (by omega)]; omega
          have hz := hg gone[j] (List.getElem_mem hlt.1)
          have hpk := pick_range (c := gone[j]) (n := 12) (by omega)
          obtain ⟨k, hk⟩ : ∃ k : Nat, 1 + pick gone[j] 12 = k := ⟨(1 + pick gone[j] 12).toNat, by omega⟩
          have hk1 : 1 ≤ k := by omega
          have hk12 : k ≤ 12 := by omega
          have wk : IntKind.i64.wrap (1 + pick gone[j] 12) = (k : Int) := by rw [wrap64 (by omega) (by omega), hk]
          refine ⟨[L.int gone[j]], ⟨j, rfl, by simp [Gl_get, hlt.1]⟩, ?_⟩
          refine ⟨_, pick13_ok gone[j] 12 hz (by omega), ?_⟩
          by_cases hmem : (k : Int) ∈ nums qs
          · obtain ⟨x, hx1, hx2, hx3⟩ := hI.good.one hmem
            have hab := abort_ok ⟨12, qs⟩ k (by show qs.length ≤ _; omega)
            rw [takenR, hx3] at hab
            obtain ⟨ks, hks⟩ : ∃ ks, ks = qs.filter fun m => !(m.number == (k : Int)) := ⟨_, rfl⟩
            simp only [← hks] at hab
            have hI2 : Inv raw i ks := hI.sub (by rw [hks]; exact List.filter_sublist)
            have hlen : qs.length = ks.length + 1 := by rw [hks]; exact len_filter hI.good.nd hmem
            have wm : IntKind.i64.wrap ((qs.length : Int) - 1) = ((ks.length : Nat) : Int) := by rw [wrap64 (by omega) (by omega)]; omega
            have hset : (Lv qs).set (0 + k) [L.bool false] = Lv ks := by
              rw [Nat.zero_add]
              refine Lv_set _ _ k false (by omega) ?_ fun q hq hne => ?_
              · exact decide_eq_false (by rw [hks, nums_filter]; simp)
              · rw [hks, nums_filter]
                constructor
                · exact fun h => ⟨h, by omega⟩
                · exact fun h => h.1
            refine ⟨_, by rw [wk]; exact hab, ?_⟩
            refine ⟨k, ⟨wk, by omega⟩, ?_⟩
            refine ⟨[L.bool (decide ((k : Int) ∈ nums qs))], by rw [Nat.zero_add]; exact Lv_get qs k (by omega), ?_⟩
            refine ⟨fun h => ?_, fun h => ?_⟩
            · exfalso
              revert h
              rw [wk]
              simp [hmem, hx2]
            refine ⟨k, ⟨wk, by omega⟩, ?_⟩
            refine ⟨[L.bool (decide ((k : Int) ∈ nums qs))], by rw [Nat.zero_add]; exact Lv_get qs k (by omega), ?_⟩
            refine ⟨fun h => ?_, fun h => absurd h (by simp [hmem])⟩
            refine ⟨k, ⟨wk, by omega⟩, ?_⟩
            refine ⟨by rw [Lv_length]; omega, ?_⟩
            refine ⟨(j + 1, ks), hI2, by show 12 - (j + 1) < 12 - j; omega, ?_⟩
            exact ⟨⟨L.le_refl _, L.le_refl _, L.le_refl _, ⟨rfl, rfl⟩, ⟨rfl, rfl, rfl, rfl⟩, L.le_of_eq (congrArg L.int wm), L.le_of_eq (by rw [wj]), trivial⟩, ⟨⟨L.le_refl _, L.le_refl _, trivial⟩, ⟨rfl, ⟨[], by rw [List.append_nil]; exact hset⟩, nofun⟩, trivial⟩, rfl, rfl⟩
          · have hab := abort_ok ⟨12, qs⟩ k (by show qs.length ≤ _; omega)
            rw [takenR, hI.good.away hmem] at hab
            refine ⟨_, by rw [wk]; exact hab, ?_⟩
            refine ⟨k, ⟨wk, by omega⟩, ?_⟩
            refine ⟨[L.bool (decide ((k : Int) ∈ nums qs))], by rw [Nat.zero_add]; exact Lv_get qs k (by omega), ?_⟩
            refine ⟨fun h => ?_, fun h => ?_⟩
            · exfalso
              revert h
              simp [hmem]
            refine ⟨k, ⟨wk, by omega⟩, ?_⟩
            refine ⟨[L.bool (decide ((k : Int) ∈ nums qs))], by rw [Nat.zero_add]; exact Lv_get qs k (by omega), ?_⟩
            refine ⟨fun h => absurd h (by simp [hmem]), fun h => ?_⟩
            refine ⟨(j + 1, qs), hI, by show 12 - (j + 1) < 12 - j; omega, ?_⟩
            exact ⟨⟨L.le_refl _, L.le_refl _, L.le_refl _, ⟨rfl, rfl⟩, ⟨rfl, rfl, rfl, rfl⟩, L.le_refl _, L.le_of_eq (by rw [wj]), trivial⟩, ⟨⟨L.le_refl _, L.le_refl _, trivial⟩, ⟨rfl, ⟨[], by rw [List.append_nil]⟩, nofun⟩, trivial⟩, rfl, rfl⟩
        · have hno : takenT ⟨12, qs⟩ (fun _ => true) = takenT ⟨12, qs⟩ (fun _ => true) := rfl
          obtain ⟨M0, hM0⟩ : ∃ M0, M0 = qs.length := ⟨_, rfl⟩
          refine ⟨List Msg × List Msg, fun p => ⟨[(0, Rs raw), (5, .bool true), (6, .ref 999999 0), (8, .er 999998 1 0 0), (9, .int M0), (18, .own 750000 7 (Ml p.1)), (19, .int p.1.length)],
            ⟨[(999999, .cells [.int 12, Ms p.2]), (999998, .arr 1 (Lv p.2) false)], [750000], 700000, 0⟩⟩,
            fun p => Inv raw i p.2 ∧ p.1.length + p.2.length = M0 ∧ ∀ x ∈ p.1, ∀ y ∈ p.2, x.less y = true, fun p => p.2.length, ([], qs), ⟨hI, by simp [hM0], by simp⟩, ?_, ?_⟩
          · exact ⟨⟨L.le_refl _, L.le_refl _, ⟨rfl, rfl⟩, ⟨rfl, rfl, rfl, rfl⟩, L.le_of_eq (by rw [hM0]), rfl, L.le_refl _, trivial⟩, ⟨⟨L.le_refl _, L.le_refl _, trivial⟩, ⟨rfl, ⟨[], by rw [List.append_nil]⟩, nofun⟩, trivial⟩, rfl, rfl⟩
          · rintro ⟨last, qs2⟩ ⟨hJ, hlen, hless⟩ _
            have hJ : Inv raw i qs2 := hJ
            have hlen : last.length + qs2.length = M0 := hlen
            have hless : ∀ x ∈ last, ∀ y ∈ qs2, x.less y = true := hless
            have hll := hJ.len
            refine ⟨fun hc2 => ?_, fun hc2 => ?_⟩
            · cases qs2 with
              | nil =>
                exfalso
                have : (last.length : Int) < M0 := by simpa using hc2
                simp at hlen
                omega
              | cons x l =>
                obtain ⟨q, hq, rfl⟩ := hJ.of x (by simp)
                have hqr : q < raw.length := by omega
                have g1 : raw.getD q r0 = raw[q] := by simp [List.getD_eq_getElem?_getD, hqr]
                obtain ⟨hh, hgl2⟩ := hJ.good.head rfl
                have hfirst := first_ok ⟨12, msOf raw q :: l⟩ (by show (msOf raw q :: l).length ≤ _; omega)
                rw [firstR, hJ.good.isRight] at hfirst
                have htake := take_ok ⟨12, msOf raw q :: l⟩ (by show (msOf raw q :: l).length ≤ _; omega)
                rw [takenR, hh] at htake
                have hJ2 : Inv raw i l := hJ.sub (List.sublist_cons_self _ _)
                have hmem : ((q + 1 : Nat) : Int) ∈ nums (msOf raw q :: l) := by simp [nums, msOf_num]
                have wq : IntKind.i64.wrap (((q + 1 : Nat) : Int) - 1) = (q : Int) := by rw [wrap64 (by omega) (by omega)]; omega
                refine ⟨_, hfirst, ?_⟩
                refine ⟨_, htake, ?_⟩
                refine ⟨q + 1, fun _ => ⟨rfl, by omega⟩, ?_⟩
                refine ⟨[L.bool (decide (((q + 1 : Nat) : Int) ∈ nums (msOf raw q :: l)))], fun _ => by rw [Nat.zero_add]; exact Lv_get _ (q + 1) (by omega), ?_⟩
                refine ⟨raw[q].L, fun _ => ⟨q, wq, by simp [Rl_get, hqr]⟩, ?_⟩
                refine ⟨_, fun _ => by have := numd_ok raw[q] (hr _ (List.getElem_mem _)) (msOf raw q).number; rw [show numd raw[q] (msOf raw q).number = msOf raw q by rw [msOf_num, msOf, g1]] at this; exact this, ?_⟩
                refine ⟨rfl, ?_⟩
                refine ⟨fun h => ?_, fun h => ?_⟩
                · exfalso
                  revert h
                  simp only [msOf_num, decide_eq_true hmem]
                  simp [eqCells, eqC]
                  exact ⟨decide_eq_false (by omega), by omega⟩
                refine ⟨Nat, fun k => ⟨[(0, Rs raw), (5, .bool true), (6, .ref 999999 0), (8, .er 999998 1 0 0), (9, .int M0), (18, .own 650000 7 (Ml last)), (19, .int last.length), (22, .ref 699998 0), (23, .ref 699997 0), (25, .int k)],
                  ⟨[(999999, .cells [.int 12, Ms (msOf raw q :: l)]), (999998, .arr 1 (Lv (msOf raw q :: l)) false), (699998, .cells [.int 12, Ms l]), (699997, .cells (msOf raw q).C)], [650000], 600000, 0⟩⟩, fun k => k ≤ last.length, fun k => last.length - k, 0, Nat.zero_le _, ?_, ?_⟩
                · exact ⟨⟨L.le_refl _, L.le_refl _, ⟨rfl, rfl⟩, ⟨rfl, rfl, rfl, rfl⟩, L.le_refl _, ⟨rfl, L.le_refl _⟩, L.le_refl _, ⟨rfl, rfl⟩, ⟨rfl, rfl⟩, L.le_refl _, trivial⟩,
                    ⟨⟨L.le_refl _, L.le_refl _, trivial⟩, ⟨rfl, ⟨[], by rw [List.append_nil]⟩, nofun⟩, ⟨L.le_refl _, L.le_refl _, trivial⟩, ⟨L.le_refl _, L.le_refl _, L.le_refl _, L.le_refl _, L.le_refl _, L.le_refl _, L.le_refl _, trivial⟩, trivial⟩, rfl, rfl⟩
                · rintro k hk _
                  have hk : k ≤ last.length := hk
                  refine ⟨fun hc3 => ?_, fun hc3 => ?_⟩
                  · have hkl : k < last.length := by rw [Ml_length] at hc3; simpa using hc3
                    have hls : last[k].less (msOf raw q) = true := hless _ (List.getElem_mem hkl) _ (by simp)
                    have wk : IntKind.i64.wrap ((k : Int) + 1) = ((k + 1 : Nat) : Int) := by
                      simp only [List.length_cons] at hlen
                      rw [wrap64 (by omega) (by omega)]; omega
                    refine ⟨last[k].L, ⟨k, rfl, by simp [Ml_get, hkl]⟩, ?_⟩
                    refine ⟨_, less'_ok last[k] (msOf raw q), ?_⟩
                    refine ⟨last[k].L, fun _ => ⟨k, rfl, by simp [Ml_get, hkl]⟩, ?_⟩
                    refine ⟨last[k].L, fun _ _ => ⟨k, rfl, by simp [Ml_get, hkl]⟩, ?_⟩
                    refine ⟨last[k].L, fun _ _ => ⟨k, rfl, by simp [Ml_get, hkl]⟩, ?_⟩
                    refine ⟨rfl, ?_⟩
                    refine ⟨fun h4 => ?_, fun h4 => ?_⟩
                    · exfalso
                      revert h4
                      rw [hls, eqId]
                      by_cases e1 : last[k].ext = (msOf raw q).ext ∧ last[k].n = (msOf raw q).n
                      · rw [decide_eq_true e1]
                        by_cases e2 : last[k].sender = (msOf raw q).sender
                        · have h5 := (less_same e1.1 e1.2).1 hls
                          have h6 : ¬ (last[k].number ≥ (msOf raw q).number) := by omega
                          rw [decide_eq_false h6]
                          cases last[k].sender == (msOf raw q).sender <;> simp
                        · have e3 : (last[k].sender == (msOf raw q).sender) = false := by simpa using e2
                          rw [e3]
                          simp
                      · rw [decide_eq_false e1]
                        simp
                    · refine ⟨k + 1, hkl, by show last.length - (k + 1) < last.length - k; omega, ?_⟩
                      exact ⟨⟨L.le_refl _, L.le_refl _, ⟨rfl, rfl⟩, ⟨rfl, rfl, rfl, rfl⟩, L.le_refl _, ⟨rfl, L.le_refl _⟩, L.le_refl _, ⟨rfl, rfl⟩, ⟨rfl, rfl⟩, L.le_of_eq (by rw [wk]), trivial⟩,
                        ⟨⟨L.le_refl _, L.le_refl _, trivial⟩, ⟨rfl, ⟨[], by rw [List.append_nil]⟩, nofun⟩, ⟨L.le_refl _, L.le_refl _, trivial⟩, ⟨L.le_refl _, L.le_refl _, L.le_refl _, L.le_refl _, L.le_refl _, L.le_refl _, L.le_refl _, trivial⟩, trivial⟩, rfl, rfl⟩
                  · have hnl : ((q + 1 : Nat) : Int) ∉ nums l := (List.nodup_cons.1 hJ.good.nd).1
                    have hset : (Lv (msOf raw q :: l)).set (0 + (q + 1)) [L.bool false] = Lv l := by
                      rw [Nat.zero_add]
                      refine Lv_set _ _ (q + 1) false (by omega) (decide_eq_false hnl) fun z hz hne => ?_
                      simp only [nums, List.map_cons, List.mem_cons, msOf_num]
                      constructor
                      · rintro (h | h)
                        · omega
                        · exact h
                      · exact .inr
                    simp only [List.length_cons] at hlen
                    have wi : IntKind.i64.wrap ((last.length : Int) + 1) = ((last.length + 1 : Nat) : Int) := by rw [wrap64 (by omega) (by omega)]; omega
                    have hml2 : Ml (last ++ [msOf raw q]) = Ml last ++ [(msOf raw q).L] := by simp [Ml]
                    refine ⟨q + 1, ⟨rfl, by omega⟩, ?_⟩
                    refine ⟨by rw [Lv_length]; omega, ?_⟩
                    refine ⟨by rw [Ml_length]; show (last.length + 1) * 64 ≤ _; omega, ?_⟩
                    refine ⟨(last ++ [msOf raw q], l), ⟨hJ2, by simp only [List.length_append, List.length_cons, List.length_nil]; omega, fun y hy z hz => ?_⟩, by show l.length < l.length + 1; omega, ?_⟩
                    · rcases List.mem_append.1 hy with hy | hy
                      · exact hless y hy z (List.mem_cons_of_mem _ hz)
                      · have : y = msOf raw q := by simpa using hy
                        subst this
                        exact (List.pairwise_cons.1 hJ.good.srt).1 z hz
                    · exact ⟨⟨L.le_refl _, L.le_refl _, ⟨rfl, rfl⟩, ⟨rfl, rfl, rfl, rfl⟩, L.le_refl _, ⟨rfl, L.le_of_eq (by rw [hml2]; rfl)⟩, L.le_of_eq (by rw [wi]; simp), trivial⟩, ⟨⟨L.le_refl _, L.le_refl _, trivial⟩, ⟨rfl, ⟨[], by rw [List.append_nil]; exact hset⟩, nofun⟩, trivial⟩, rfl, rfl⟩
            · have hnil : qs2 = [] := by
                have : ¬ ((last.length : Int) < M0) := by simpa using hc2
                exact List.eq_nil_of_length_eq_zero (by omega)
              subst hnil
              have htake := take_ok ⟨12, []⟩ (by simp)
              rw [takenR, hJ.good.none rfl] at htake
              refine ⟨_, htake, ?_⟩
              exact ⟨⟨L.le_of_eq (by rfl), trivial⟩, trivial, rfl, rfl⟩
end Go.Proofs.YthcbdpghfefnlaaDoor
