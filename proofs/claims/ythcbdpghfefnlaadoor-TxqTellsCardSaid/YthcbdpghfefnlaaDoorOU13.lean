/-
  Layer 13: what the document's functions answer: the same.
-/
import Derived.Test.YthcbdpghfefnlaaDoorOE13
import Derived.Test.YthcbdpghfefnlaaDoorOT13
set_option linter.unusedVariables false
set_option linter.unusedSimpArgs false
set_option maxRecDepth 100000
namespace Go.Proofs.YthcbdpghfefnlaaDoor
open Go Go.Proofs.YthcbdpghfefnlaaDoor.Abs

theorem ins_perm (l : List Msg) (m : Msg) (k : Nat) : (ins' l [m] k).Perm (m :: l) := by
  have : l.take k ++ l.drop k = l := List.take_append_drop _ _
  rw [ins']
  simp only [List.append_assoc, List.cons_append, List.nil_append]
  exact List.perm_middle.trans (by rw [this])
theorem ins_sorted {l : List Msg} {m : Msg} {k : Nat} (hs : Srt l) (h1 : ∀ j (hj : j < l.length), j < k → l[j].less m = true) (h2 : ∀ j (hj : j < l.length), k ≤ j → m.less l[j] = true) : Srt (ins' l [m] k) := by
  have e : l.take k ++ l.drop k = l := List.take_append_drop _ _
  have hs2 := hs
  rw [← e] at hs2
  obtain ⟨p1, p2, p3⟩ := List.pairwise_append.1 hs2
  rw [ins']
  simp only [List.append_assoc, List.cons_append, List.nil_append]
  refine List.pairwise_append.2 ⟨p1, List.pairwise_cons.2 ⟨fun y hy => ?_, p2⟩, fun x hx y hy => ?_⟩
  · obtain ⟨i, hi, rfl⟩ := List.getElem_of_mem hy
    simp only [List.length_drop] at hi
    rw [List.getElem_drop]
    exact h2 _ (by omega) (by omega)
  · rcases List.mem_cons.1 hy with rfl | hy
    · obtain ⟨i, hi, rfl⟩ := List.getElem_of_mem hx
      have hi' := hi
      simp only [List.length_take] at hi'
      rw [List.getElem_take]
      exact h1 i (by omega) (by omega)
    · exact p3 x hx y hy
theorem scan_spec (m : Msg) (out : List Msg) : ∀ n, n ≤ out.length → (∀ j (hj : j < out.length), scan m out n ≤ j → j < n → m.less out[j] = true) ∧ (0 < scan m out n → ∀ (h : scan m out n - 1 < out.length), m.less out[scan m out n - 1] = false)
  | 0, _ => ⟨fun j hj h1 h2 => by omega, fun h => by simp [scan] at h⟩
  | n + 1, hn => by
    have hlt : n < out.length := by omega
    obtain ⟨a, b⟩ := scan_spec m out n (by omega)
    have e : scan m out (n + 1) = if m.less out[n] = true then scan m out n else n + 1 := by
      rw [scan, List.getElem?_eq_getElem hlt]
    by_cases hl : m.less out[n] = true
    · rw [if_pos hl] at e
      rw [e]
      refine ⟨fun j hj h1 h2 => ?_, b⟩
      rcases Nat.lt_or_eq_of_le (Nat.lt_succ_iff.1 h2) with h3 | h3
      · exact a j hj h1 h3
      · subst h3; exact hl
    · rw [if_neg hl] at e
      rw [e]
      exact ⟨fun j hj h1 h2 => by omega, fun _ _ => by simpa using hl⟩
theorem sortStep_sorted {out : List Msg} {m : Msg} (hs : Srt out) (hm : within m.n m.ext = true) (hl : ∀ x ∈ out, within x.n x.ext = true ∧ x.number ≠ m.number) : Srt (sortStep out m) ∧ (sortStep out m).Perm (m :: out) := by
  rw [sortStep, if_pos hm]
  refine ⟨ins_sorted hs (fun j hj h => ?_) (fun j hj h => (scan_spec m out _ (Nat.le_refl _)).1 j hj h hj), ins_perm _ _ _⟩
  have hk := scan_le m out out.length
  have h0 := (scan_spec m out _ (Nat.le_refl _)).2 (by omega) (by omega)
  have ht : (out[scan m out out.length - 1]'(by omega)).less m = true := by
    rcases less_total (hl _ (List.getElem_mem (show scan m out out.length - 1 < out.length by omega))).1 hm (hl _ (List.getElem_mem (show scan m out out.length - 1 < out.length by omega))).2 with h | h
    · exact h
    · rw [h0] at h; cases h
  by_cases e : j = scan m out out.length - 1
  · subst e; exact ht
  · exact less_trans (List.pairwise_iff_getElem.1 hs j _ hj (by omega) (by omega)) ht
theorem sort_fold : ∀ (l acc : List Msg), Srt acc → (∀ x ∈ acc ++ l, within x.n x.ext = true) → (nums (acc ++ l)).Nodup → Srt (l.foldl sortStep acc) ∧ (l.foldl sortStep acc).Perm (acc ++ l)
  | [], acc, h, _, _ => ⟨h, by simp⟩
  | m :: l, acc, h, hw, nd => by
    have nd2 : (nums (m :: (acc ++ l))).Nodup := ((List.perm_middle.map Msg.number).nodup_iff).1 nd
    obtain ⟨n1, n2⟩ := List.nodup_cons.1 nd2
    obtain ⟨a, b⟩ := sortStep_sorted (m := m) h (hw m (by simp)) fun x hx => ⟨hw x (by simp [hx]), fun e => n1 (List.mem_map.2 ⟨x, by simp [hx], e⟩)⟩
    have hp : (sortStep acc m ++ l).Perm (acc ++ m :: l) := (b.append_right l).trans (by simpa using List.perm_middle.symm)
    obtain ⟨c, d⟩ := sort_fold l (sortStep acc m) a (fun x hx => hw x (hp.mem_iff.1 hx)) ((hp.map Msg.number).nodup_iff.2 nd)
    exact ⟨c, d.trans hp⟩
theorem sortL_ins {l : List Msg} {m : Msg} (hs : Srt l) (hw : ∀ x ∈ l, within x.n x.ext = true) (hm : within m.n m.ext = true) (nd : (nums l).Nodup) (hn : m.number ∉ nums l) : sortL (l ++ [m]) = insQ l m := by
  have hp : (m :: l).Perm (l ++ [m]) := (List.perm_append_singleton m l).symm
  obtain ⟨a, b⟩ := sort_fold (l ++ [m]) [] (by simp [Srt]) (fun x hx => by
    simp only [List.nil_append, List.mem_append, List.mem_singleton] at hx
    rcases hx with hx | rfl
    · exact hw x hx
    · exact hm) (by
      rw [List.nil_append]
      exact (hp.map Msg.number).nodup_iff.1 (List.nodup_cons.2 ⟨hn, nd⟩))
  refine srt_perm a (insQ_sorted hs hm fun x hx => ⟨hw x hx, fun e => hn (List.mem_map.2 ⟨x, hx, e⟩)⟩) (b.trans ?_)
  rw [List.nil_append]
  exact hp.symm.trans (insQ_perm l m).symm
theorem Good.of_right {q : Que} (h : q.right = true) : Good q := by
  rw [Que.right] at h
  simp only [Bool.and_eq_true, decide_eq_true_eq, List.all_eq_true] at h
  obtain ⟨⟨h1, h2⟩, h3, h4⟩ := h
  have hok : ∀ k (hk : k < q.msgs.length), q.msgs[k].right = true ∧ (k = 0 ∨ (q.msgs.getD (k - 1) dmsg).less q.msgs[k] = true) := by
    intro k hk
    have := h3 k (by simpa using hk)
    have e : q.msgs.getD k dmsg = q.msgs[k] := by simp [List.getD_eq_getElem?_getD, hk]
    rw [okAt, e] at this
    simpa using this
  refine ⟨h1, h2, fun m hm => ?_, ?_, (numsI_iff _).1 h4⟩
  · obtain ⟨k, hk, rfl⟩ := List.getElem_of_mem hm
    exact (hok k hk).1
  · rw [Srt, List.pairwise_iff_getElem]
    intro i j hi hj hij
    induction j with
    | zero => omega
    | succ j ih =>
      have hjl : j < q.msgs.length := by omega
      have e : q.msgs.getD (j + 1 - 1) dmsg = q.msgs[j] := by simp [List.getD_eq_getElem?_getD, hjl]
      have hs : q.msgs[j].less q.msgs[j + 1] = true := by
        rcases (hok (j + 1) hj).2 with h | h
        · omega
        · rw [e] at h; exact h
      rcases Nat.lt_or_eq_of_le (Nat.lt_succ_iff.1 hij) with h | h
      · exact less_trans (ih hjl h) hs
      · subst h; exact hs
theorem atRef_ok (q : Que) (n : Int) (hq : q.msgs.length ≤ 1000000000) : M 41 [q.V, .int n] (.int (findN (fun m => m.number == n) q.msgs)) := by
  have hml := Ml_length q.msgs
  refine go41 rfl rfl fun hb => ?_
  refine ⟨Nat, fun k => ⟨[(1, .int n), (2, .ref 999999 0), (5, .int k)], ⟨[(999999, .cells [.int q.lim, Ms q.msgs])], [], 900000, 0⟩⟩, fun k => k ≤ q.msgs.length ∧ ∀ j (hj : j < q.msgs.length), j < k → (q.msgs[j].number == n) = false, fun k => q.msgs.length - k, 0, ⟨Nat.zero_le _, nofun⟩, ?_, ?_⟩
  · exact ⟨⟨L.le_refl _, ⟨rfl, rfl⟩, L.le_refl _, trivial⟩, ⟨⟨L.le_refl _, L.le_refl _, trivial⟩, trivial⟩, rfl, rfl⟩
  · rintro k ⟨hk, hall⟩ _
    refine ⟨fun hc => ?_, fun hc => ?_⟩
    · have hlt : k < q.msgs.length := by rw [hml] at hc; simpa using hc
      refine ⟨q.msgs[k].L, ⟨k, rfl, by simp [Ml_get, hlt]⟩, ?_⟩
      refine ⟨fun hc2 => ?_, fun hc2 => ?_⟩
      · refine ⟨⟨L.le_of_eq ?_, trivial⟩, trivial, rfl, rfl⟩
        rw [findN_some hlt (fun j hj => hall j (by omega) hj) hc2]
      · refine ⟨k + 1, ⟨hlt, fun j hj hjk => ?_⟩, by show q.msgs.length - (k + 1) < q.msgs.length - k; omega, ?_⟩
        · rcases Nat.lt_or_eq_of_le (Nat.lt_succ_iff.1 hjk) with h1 | h1
          · exact hall j hj h1
          · subst h1; exact hc2
        exact ⟨⟨L.le_refl _, ⟨rfl, rfl⟩, L.le_of_eq (by rw [wrap64 (by omega) (by omega)]; simp), trivial⟩, ⟨⟨L.le_refl _, L.le_refl _, trivial⟩, trivial⟩, rfl, rfl⟩
    · have hge : k = q.msgs.length := by
        have : ¬ ((k : Int) < q.msgs.length) := by rw [hml] at hc; simpa using hc
        omega
      refine ⟨⟨L.le_of_eq ?_, trivial⟩, trivial, rfl, rfl⟩
      rw [findN_none fun j hj => hall j hj (by omega)]
theorem ownRef_ok (q : Que) (hq : q.msgs.length ≤ 1000000) : M 13 [q.V] q.V := by
  have hml := Ml_length q.msgs
  refine go13 rfl rfl fun hb => ?_
  have b1 : (([] : List (List L)).length + (Ml q.msgs).length) * 64 ≤ 140737488355328 := by rw [hml]; simp only [List.length_nil]; omega
  refine ⟨b1, ?_⟩
  refine ⟨rfl, ?_⟩
  exact ⟨⟨⟨L.le_refl _, L.le_refl _, trivial⟩, trivial⟩, trivial, rfl, rfl⟩
theorem newRef_ok (n : Int) : M 10 [.int n] (cond (mayB n) (.tup [Qnil n, .int 0]) (.tup [Qnil 0, .int 1])) := by
  refine go10 rfl (by cases mayB n <;> rfl) fun hb => ?_
  refine ⟨fun h => ?_, fun h => ?_⟩
  · have h : mayB n = false := by
      revert h; rw [mayB]
      by_cases h1 : n < 1 <;> by_cases h2 : n > 32 <;> simp [h1, h2] <;> omega
    rw [h]
    exact ⟨⟨⟨⟨L.le_refl _, L.le_refl _, trivial⟩, L.le_refl _, trivial⟩, trivial⟩, trivial, rfl, rfl⟩
  · have h : mayB n = true := by
      revert h; rw [mayB]
      by_cases h1 : n < 1 <;> by_cases h2 : n > 32 <;> simp [h1, h2] <;> omega
    rw [h]
    exact ⟨⟨⟨⟨L.le_refl _, L.le_refl _, trivial⟩, L.le_refl _, trivial⟩, trivial⟩, trivial, rfl, rfl⟩
theorem firstRef_ok (q : Que) (hq : q.msgs.length ≤ 1000000000) : M 16 [q.V] (firstR q) := by
  refine go16 rfl (by rw [firstR]; cases q.right <;> cases q.msgs <;> rfl) fun hb => ?_
  refine ⟨_, rightRef_ok q hq, ?_⟩
  refine ⟨fun h => ?_, fun h => ?_⟩
  · have hR : firstR q = .tup [dmsg.V, .bool false] := by
      rw [firstR]; revert h; rw [Ml_length]
      cases q.right <;> cases q.msgs <;> simp
      omega
    rw [hR]
    exact ⟨⟨⟨m7 dmsg, L.le_refl _, trivial⟩, trivial⟩, trivial, rfl, rfl⟩
  · obtain ⟨m, l, hl⟩ : ∃ m l, q.msgs = m :: l := by
      cases hm : q.msgs with
      | nil => revert h; rw [Ml_length, hm]; cases q.right <;> simp
      | cons m l => exact ⟨m, l, rfl⟩
    have hR : firstR q = .tup [m.V, .bool true] := by
      rw [firstR, hl]; revert h
      cases q.right <;> simp
    rw [hR]
    refine ⟨m.L, ⟨0, rfl, by rw [hl]; rfl⟩, ?_⟩
    exact ⟨⟨⟨m7 m, L.le_refl _, trivial⟩, trivial⟩, trivial, rfl, rfl⟩
theorem without_ok (q : Que) (i : Nat) (hi : i < q.msgs.length) (hq : q.msgs.length ≤ 1000000) : M 31 [q.V, .int i] (.tup [Que.V ⟨q.lim, del q.msgs i⟩, q.msgs[i].V, .int 0]) := by
  have hml := Ml_length q.msgs
  refine go31 rfl rfl fun hb => ?_
  have wi : IntKind.i64.wrap ((i : Int) + 1) = ((i + 1 : Nat) : Int) := by rw [wrap64 (by omega) (by omega)]; omega
  have b1 : (([] : List (List L)).length + ((Ml q.msgs).take i).length) * 64 ≤ 140737488355328 := by rw [List.length_take]; simp only [List.length_nil]; omega
  have b2 : ((([] : List (List L)) ++ (Ml q.msgs).take i).length + ((Ml q.msgs).drop (i + 1)).length) * 64 ≤ 140737488355328 := by rw [List.nil_append, List.length_take, List.length_drop]; omega
  refine ⟨i, ⟨rfl, by omega⟩, ?_⟩
  refine ⟨b1, ?_⟩
  refine ⟨i + 1, ⟨wi, by omega⟩, ?_⟩
  refine ⟨b2, ?_⟩
  refine ⟨rfl, ?_⟩
  refine ⟨q.msgs[i].L, ⟨i, rfl, by simp [Ml_get, hi]⟩, ?_⟩
  refine ⟨rfl, ?_⟩
  have hd : ([] : List (List L)) ++ (Ml q.msgs).take i ++ (Ml q.msgs).drop (i + 1) = Ml (del q.msgs i) := by simp [del, Ml, List.map_take, List.map_drop]
  exact ⟨⟨⟨⟨L.le_refl _, L.le_of_eq (congrArg (L.sl 7) hd), trivial⟩, m7 _, L.le_refl _, trivial⟩, trivial⟩, trivial, rfl, rfl⟩
theorem takeRef_ok (q : Que) (hq : q.msgs.length ≤ 1000000) : M 18 [q.V] (takenR q fun _ => true) := by
  have hml := Ml_length q.msgs
  refine go18 rfl (by rw [takenR]; split <;> rfl) fun hb => ?_
  refine ⟨_, rightRef_ok q (by omega), ?_⟩
  refine ⟨fun h => ?_, fun h => ?_⟩
  · have h : q.right = false := by simpa using h
    rw [show takenR q (fun _ => true) = .tup [q.V, dmsg.V, .int 1] by simp [takenR, takenT, h]]
    refine ⟨_, ownRef_ok q hq, ?_⟩
    exact ⟨⟨⟨⟨L.le_refl _, L.le_refl _, trivial⟩, m7 dmsg, L.le_refl _, trivial⟩, trivial⟩, trivial, rfl, rfl⟩
  have h : q.right = true := by simpa using h
  have hg := Good.of_right h
  refine ⟨fun h2 => ?_, fun h2 => ?_⟩
  · have h2 : q.msgs = [] := by
      rw [hml] at h2
      have h2 : (q.msgs.length : Int) = 0 := eq_of_beq h2
      exact List.eq_nil_of_length_eq_zero (by omega)
    rw [show takenR q (fun _ => true) = .tup [q.V, dmsg.V, .int 41] by rw [takenR, hg.none h2]]
    refine ⟨_, ownRef_ok q hq, ?_⟩
    exact ⟨⟨⟨⟨L.le_refl _, L.le_refl _, trivial⟩, m7 dmsg, L.le_refl _, trivial⟩, trivial⟩, trivial, rfl, rfl⟩
  have h2 : 0 < q.msgs.length := by
    rw [hml] at h2
    have h2 : ¬ (q.msgs.length : Int) = 0 := by simpa using h2
    omega
  obtain ⟨x, l, hx⟩ : ∃ x l, q.msgs = x :: l := by
    cases hm : q.msgs with
    | nil => rw [hm] at h2; simp at h2
    | cons x l => exact ⟨x, l, rfl⟩
  rw [show takenR q (fun _ => true) = .tup [Que.V ⟨q.lim, l⟩, x.V, .int 0] by rw [takenR, (hg.head hx).1]]
  have hw := without_ok q 0 h2 hq
  have e1 : del q.msgs 0 = l := by rw [hx]; rfl
  have e2 : q.msgs[0] = x := by simp [hx]
  rw [e1, e2] at hw
  refine ⟨_, hw, ?_⟩
  exact ⟨⟨⟨⟨L.le_refl _, L.le_refl _, trivial⟩, m7 x, L.le_refl _, trivial⟩, trivial⟩, trivial, rfl, rfl⟩
theorem abortRef_ok (q : Que) (n : Int) (hq : q.msgs.length ≤ 1000000) : M 25 [q.V, .int n] (takenR q fun m => m.number == n) := by
  have hml := Ml_length q.msgs
  refine go25 rfl (by rw [takenR]; split <;> rfl) fun hb => ?_
  refine ⟨_, rightRef_ok q (by omega), ?_⟩
  refine ⟨fun h => ?_, fun h => ?_⟩
  · have h : q.right = false := by simpa using h
    rw [show takenR q (fun m => m.number == n) = .tup [q.V, dmsg.V, .int 1] by simp [takenR, takenT, h]]
    refine ⟨_, ownRef_ok q hq, ?_⟩
    exact ⟨⟨⟨⟨L.le_refl _, L.le_refl _, trivial⟩, m7 dmsg, L.le_refl _, trivial⟩, trivial⟩, trivial, rfl, rfl⟩
  have h : q.right = true := by simpa using h
  refine ⟨_, atRef_ok q n (by omega), ?_⟩
  refine ⟨fun h2 => ?_, fun h2 => ?_⟩
  · have h2 : findN (fun m => m.number == n) q.msgs < 0 := by simpa using h2
    rw [show takenR q (fun m => m.number == n) = .tup [q.V, dmsg.V, .int 41] by simp [takenR, takenT, h, h2]]
    refine ⟨_, ownRef_ok q hq, ?_⟩
    exact ⟨⟨⟨⟨L.le_refl _, L.le_refl _, trivial⟩, m7 dmsg, L.le_refl _, trivial⟩, trivial⟩, trivial, rfl, rfl⟩
  have h2 : ¬ findN (fun m => m.number == n) q.msgs < 0 := by simpa using h2
  have hlt := findN_lt (fun m => m.number == n) q.msgs
  obtain ⟨k, hk⟩ : ∃ k : Nat, findN (fun m => m.number == n) q.msgs = k := ⟨(findN (fun m => m.number == n) q.msgs).toNat, by omega⟩
  have hkl : k < q.msgs.length := by omega
  rw [show takenR q (fun m => m.number == n) = .tup [Que.V ⟨q.lim, del q.msgs k⟩, q.msgs[k].V, .int 0] by rw [takenR, takenT, if_neg (by simp [h]), if_neg h2]; simp [hk, List.getD_eq_getElem?_getD, hkl]]
  refine ⟨_, by rw [hk]; exact without_ok q k hkl hq, ?_⟩
  exact ⟨⟨⟨⟨L.le_refl _, L.le_refl _, trivial⟩, m7 _, L.le_refl _, trivial⟩, trivial⟩, trivial, rfl, rfl⟩
theorem putRef_ok (q : Que) (m : Msg) (hq : q.msgs.length ≤ 900000) : M 23 [q.V, m.V] (.tup [(putR q m).1.V, .int (putR q m).2]) := by
  have hml := Ml_length q.msgs
  refine go23 rfl rfl fun hb => ?_
  refine ⟨_, rightRef_ok q (by omega), ?_⟩
  refine ⟨_, fun _ => right'_ok m, ?_⟩
  refine ⟨fun h => ?_, fun h => ?_⟩
  · have h : q.right = false ∨ m.right = false := by
      revert h; cases q.right <;> cases m.right <;> simp
    rw [show putR q m = (q, 1) by rw [putR, if_pos h]]
    refine ⟨_, ownRef_ok q (by omega), ?_⟩
    exact ⟨⟨⟨⟨L.le_refl _, L.le_refl _, trivial⟩, L.le_refl _, trivial⟩, trivial⟩, trivial, rfl, rfl⟩
  have h : q.right = true ∧ m.right = true := by
    revert h; cases q.right <;> cases m.right <;> simp
  have hg := Good.of_right h.1
  have n1 : ¬ (q.right = false ∨ m.right = false) := by simp [h]
  refine ⟨_, atRef_ok q m.number (by omega), ?_⟩
  refine ⟨fun h3 => ?_, fun h3 => ?_⟩
  · have h3 : 0 ≤ findN (fun x => x.number == m.number) q.msgs := by simpa using h3
    rw [show putR q m = (q, 42) by rw [putR, if_neg n1, if_pos h3]]
    refine ⟨_, ownRef_ok q (by omega), ?_⟩
    exact ⟨⟨⟨⟨L.le_refl _, L.le_refl _, trivial⟩, L.le_refl _, trivial⟩, trivial⟩, trivial, rfl, rfl⟩
  have h3 : ¬ 0 ≤ findN (fun x => x.number == m.number) q.msgs := by simpa using h3
  have hlen := hg.len
  refine ⟨fun h4 => ?_, fun h4 => ?_⟩
  · have h4 : (q.msgs.length : Int) = q.lim := by
      rw [hml] at h4
      have h4 : (q.msgs.length : Int) ≥ q.lim := by simpa using h4
      omega
    rw [show putR q m = (q, 40) by rw [putR, if_neg n1, if_neg h3, if_pos h4]]
    refine ⟨_, ownRef_ok q (by omega), ?_⟩
    exact ⟨⟨⟨⟨L.le_refl _, L.le_refl _, trivial⟩, L.le_refl _, trivial⟩, trivial⟩, trivial, rfl, rfl⟩
  have h4 : ¬ (q.msgs.length : Int) = q.lim := by
    rw [hml] at h4
    have h4 : ¬ (q.msgs.length : Int) ≥ q.lim := by simpa using h4
    omega
  have hno : m.number ∉ nums q.msgs := fun hin => by
    obtain ⟨x, hx, e⟩ := List.mem_map.1 hin
    rcases findN_cases (fun x => x.number == m.number) q.msgs with ⟨h1, h2⟩ | ⟨k, hk, h1, h2, h5⟩
    · have := h2 x hx
      simp [e] at this
    · omega
  rw [show putR q m = (⟨q.lim, insQ q.msgs m⟩, 0) by rw [putR, if_neg n1, if_neg h3, if_neg h4]; rfl]
  have b1 : (([] : List (List L)).length + (Ml q.msgs).length) * 64 ≤ 140737488355328 := by rw [hml]; simp only [List.length_nil]; omega
  have b2 : ((([] : List (List L)) ++ Ml q.msgs).length + ([m.L] : List (List L)).length) * 64 ≤ 140737488355328 := by rw [List.nil_append, hml]; simp only [List.length_cons, List.length_nil]; omega
  have hs := sort'_ok (q.msgs ++ [m]) (by simp; omega)
  have e1 : ([] : List (List L)) ++ Ml q.msgs ++ [m.L] = Ml (q.msgs ++ [m]) := by simp [Ml]
  rw [sortL_ins hg.srt (fun x hx => right_id (hg.right x hx)) (right_id h.2) hg.nd hno] at hs
  refine ⟨b1, ?_⟩
  refine ⟨b2, ?_⟩
  have hs' : M 42 [.d (.l (.sl 7 (([] : List (List L)) ++ Ml q.msgs ++ [m.L])))] (V.own 5 7 (Ml (insQ q.msgs m))) := by rw [e1]; exact hs
  refine ⟨_, hs', ?_⟩
  refine ⟨rfl, ?_⟩
  exact ⟨⟨⟨⟨L.le_refl _, L.le_refl _, trivial⟩, L.le_refl _, trivial⟩, trivial⟩, trivial, rfl, rfl⟩
end Go.Proofs.YthcbdpghfefnlaaDoor
