/-
  Layer 15: the law functions CreditAgain, CreditGives.
-/
import Derived.Test.YtdaigbpaggnijaaOL15
set_option linter.unusedVariables false
set_option linter.unusedSimpArgs false
namespace Go.Proofs.Ytdaigbpaggnijaa
open Go Go.Proofs.Ytdaigbpaggnijaa.Abs

theorem fits_iff : ∀ (l done : List Int), fits done l = true ↔ (∀ x ∈ l, number x = true) ∧ l.Nodup ∧ ∀ x ∈ l, x ∉ done
  | [], done => by simp [fits]
  | n :: l, done => by
    rw [fits, Bool.and_eq_true, Bool.and_eq_true, fits_iff l]
    simp only [Bool.not_eq_true', decide_eq_false_iff_not, List.mem_cons, List.nodup_cons, List.mem_append, List.not_mem_nil, or_false, not_or]
    constructor
    · rintro ⟨⟨h1, h2⟩, h3, h4, h5⟩
      refine ⟨?_, ⟨fun h => (h5 n h).2 rfl, h4⟩, ?_⟩
      · rintro x (rfl | hx)
        · exact h1
        · exact h3 x hx
      · rintro x (rfl | hx)
        · exact h2
        · exact (h5 x hx).1
    · rintro ⟨h1, ⟨h2, h3⟩, h4⟩
      exact ⟨⟨h1 n (.inl rfl), h4 n (.inl rfl)⟩, fun x hx => h1 x (.inr hx), h3, fun x hx => ⟨h4 x (.inr hx), fun e => h2 (e ▸ hx)⟩⟩
theorem right_iff (w : Int) (l : List Int) : right w l = true ↔ (∀ x ∈ l, number x = true) ∧ l.Nodup ∧ 1 ≤ w ∧ w ≤ 16 ∧ (l.length : Int) ≤ w := by
  rw [right, Bool.and_eq_true, fits_iff]
  simp [and_assoc]
theorem number_iff (n : Int) : number n = true ↔ 1 ≤ n ∧ n ≤ 65535 := by simp [number]
theorem takes_iff (w : Int) (l : List Int) (n : Int) : takes w l n = true ↔ right w l = true ∧ number n = true ∧ n ∉ l ∧ left w l ≠ 0 := by
  simp [takes, and_assoc]
theorem right_take {w : Int} {l : List Int} {n : Int} (h : takes w l n = true) : right w (l ++ [n]) = true := by
  obtain ⟨h1, h2, h3, h4⟩ := (takes_iff w l n).1 h
  rw [left, h1] at h4
  obtain ⟨a, b, c, d, e⟩ := (right_iff w l).1 h1
  refine (right_iff _ _).2 ⟨?_, ?_, c, d, ?_⟩
  · simp only [List.mem_append, List.mem_singleton]
    rintro x (hx | rfl)
    · exact a x hx
    · exact h2
  · rw [List.nodup_append]
    refine ⟨b, by simp, ?_⟩
    intro x hx y hy
    simp at hy
    subst hy
    exact fun e => h3 (e ▸ hx)
  · simp at h4 ⊢
    omega
theorem right_keeps {w : Int} {l back : List Int} (h : right w l = true) : right w (keeps l back) = true := by
  obtain ⟨a, b, c, d, e⟩ := (right_iff w l).1 h
  have hl : (keeps l back).length ≤ l.length := List.length_filter_le _ _
  exact (right_iff _ _).2 ⟨fun x hx => a x (List.mem_filter.1 hx |>.1), b.sublist List.filter_sublist, c, d, by omega⟩
theorem crL_right (window : Int) (raw : List Int) : right (crW window) (crL (crW window) raw) = true := by
  have hw := crW_range window
  rw [crL]
  generalize raw.take 20 = r
  suffices h : ∀ (r l : List Int), right (crW window) l = true → right (crW window) (r.foldl (step (crW window)) l) = true from
    h r [] ((right_iff _ _).2 ⟨by simp, by simp, hw.1, hw.2, by simp; omega⟩)
  intro r
  induction r with
  | nil => intro l h; exact h
  | cons x r ih =>
    intro l h
    refine ih _ ?_
    rw [step]
    split
    · exact right_take (by assumption)
    · exact h
theorem sm_right {w : Int} {l : List Int} (h : right w l = true) : Sm l := by
  have := right_bounds h
  show _ ≤ _
  omega
theorem left_right {w : Int} {l : List Int} (h : right w l = true) : left w l = w - l.length := by rw [left, h]; rfl
theorem keeps_one {l : List Int} {n : Int} (hn : n ∉ l) : keeps l [n] = l := by
  rw [keeps, List.filter_eq_self]
  intro a ha
  have : ¬ a = n := fun e => hn (e ▸ ha)
  simp [this]
theorem keeps_len {l : List Int} {n : Int} (hd : l.Nodup) (hn : n ∈ l) : (keeps l [n]).length + 1 = l.length := by
  induction l with
  | nil => cases hn
  | cons a l ih =>
    rw [List.nodup_cons] at hd
    by_cases e : a = n
    · subst e
      have := keeps_one hd.1
      simp only [keeps] at this ⊢
      rw [List.filter_cons]
      simp at this ⊢
      exact this
    · have hn' : n ∈ l := by
        rcases List.mem_cons.1 hn with h | h
        · exact absurd h.symm e
        · exact h
      have := ih hd.2 hn'
      simp only [keeps] at this ⊢
      rw [List.filter_cons]
      simp only [List.mem_singleton, e, decide_false, Bool.not_false, if_true, List.length_cons]
      simp only [List.mem_singleton] at this
      omega

theorem again_facts (w : Int) (l : List Int) (n : Int) (h : right w l = true) (hn : 1 ≤ n ∧ n ≤ 30) :
    (takes w l n = false ∧ ((takeE w l n = 42 ∧ n ∈ l ∧ (l.length : Int) - (keeps l [n]).length = 1 ∧ left w (keeps l [n]) = left w l + 1) ∨ (takeE w l n = 40 ∧ n ∉ l ∧ keeps l [n] = l ∧ left w l = 0))) ∨
    (takes w l n = true ∧ takeE w l n = 0 ∧ keeps (l ++ [n]) [n] = l ∧ takes (min (w + 1) 16) l n = true ∧ takeE (min (w + 1) 16) l n = 0 ∧ left w (l ++ [n]) = left w l - 1) := by
  have hnum : number n = true := (number_iff n).2 ⟨hn.1, by omega⟩
  obtain ⟨a, b, c, d, e⟩ := (right_iff w l).1 h
  by_cases hm : n ∈ l
  · have k := keeps_len b hm
    refine .inl ⟨by simp [takes, hm], .inl ⟨by simp [takeE, h, hnum, hm], hm, by omega, ?_⟩⟩
    rw [left_right h, left_right (right_keeps h)]; omega
  · have k := keeps_one hm
    by_cases hz : left w l = 0
    · exact .inl ⟨by simp [takes, hz], .inr ⟨by simp [takeE, h, hnum, hm, hz], hm, k, hz⟩⟩
    · have ht : takes w l n = true := (takes_iff w l n).2 ⟨h, hnum, hm, hz⟩
      have hz' := hz
      rw [left_right h] at hz'
      have hm1 : w ≤ min (w + 1) 16 ∧ min (w + 1) 16 ≤ 16 := by omega
      have hr2 : right (min (w + 1) 16) l = true := (right_iff _ _).2 ⟨a, b, by omega, by omega, by omega⟩
      have hz2 : left (min (w + 1) 16) l ≠ 0 := by rw [left_right hr2]; omega
      refine .inr ⟨ht, by simp [takeE, h, hnum, hm, hz], ?_, (takes_iff _ _ _).2 ⟨hr2, hnum, hm, hz2⟩, by simp [takeE, hr2, hnum, hm, hz2], ?_⟩
      · rw [keeps, List.filter_append]
        have := k
        rw [keeps] at this
        rw [this]; simp
      · rw [left_right h, left_right (right_take ht)]
        simp; omega

set_option maxRecDepth 100000 in
theorem again_ok (window : Int) (raw : List Int) (nr : Int) (hw : In64 window) (hr : ∀ x ∈ raw, In64 x) (hnr : In64 nr) : M 6 [.int window, Ds raw, .int nr] (.bool true) := by
  refine go6 rfl rfl fun hb => ?_
  have hp := pick_range (c := nr) (n := 30) (by omega)
  obtain ⟨w, ew⟩ : ∃ w, w = crW window := ⟨_, rfl⟩
  obtain ⟨l, el⟩ : ∃ l, l = crL (crW window) raw := ⟨_, rfl⟩
  have hn : 1 ≤ IntKind.i64.wrap (1 + pick nr 30) ∧ IntKind.i64.wrap (1 + pick nr 30) ≤ 30 := by
    rw [wrap64 (by omega) (by omega)]; omega
  have hR : right w l = true := by rw [ew, el]; exact crL_right window raw
  have hW : 1 ≤ w ∧ w ≤ 16 := by rw [ew]; exact crW_range window
  have hsm := sm_right hR
  have cr := credit_ok window raw hw hr
  rw [← el, ← ew] at cr
  have hF := again_facts w l (IntKind.i64.wrap (1 + pick nr 30)) hR hn
  refine ⟨_, awake_ok, ?_⟩
  refine ⟨_, cr, ?_⟩
  refine ⟨_, pick_ok nr 30 hnr (by omega), ?_⟩
  refine ⟨_, take_ok w l (IntKind.i64.wrap (1 + pick nr 30)) hsm, ?_⟩
  generalize IntKind.i64.wrap (1 + pick nr 30) = n at *
  have hi1 : ∀ (a b : List Int), M 25 [Ds a, Ds b] (.bool (decide (a = b))) := ints_ok
  rcases hF with ⟨f1, hF⟩ | ⟨f1, f2, f3, f4, f5, f6⟩
  · have hne : takeE w l n ≠ 0 := by rcases hF with h | h <;> rw [h.1] <;> decide
    rw [f1]
    refine ⟨fun h => ?_, fun h => ?_⟩
    · have g1 := give_ok w l [n] hsm
      rw [giveL, hR, if_pos rfl, if_pos rfl, if_pos rfl] at g1
      refine ⟨_, g1, ?_⟩
      refine ⟨_, fun _ => same_ok w l w l, ?_⟩
      refine ⟨_, fun _ _ => left_ok w (keeps l [n]), ?_⟩
      refine ⟨_, fun _ _ => left_ok w l, ?_⟩
      refine ⟨_, fun _ _ => left_ok w l, ?_⟩
      refine ⟨rfl, ?_⟩
      refine ⟨⟨L.le_of_eq ?_, trivial⟩, trivial, rfl, rfl⟩
      rcases hF with ⟨a1, a2, a3, a4⟩ | ⟨a1, a2, a3, a4⟩
      · have : IntKind.i64.wrap (left w l + 1) = left w l + 1 := by rw [left_right hR, wrap64 (by omega) (by omega)]
        simp [a1, a3, a4, this]
      · simp [a1, a3, a4]
    · simp at h; exact absurd h hne
  · rw [f1, f2, if_pos rfl]
    refine ⟨fun h => ?_, fun h => ?_⟩
    · exact absurd h (by decide)
    · have g1 := give_ok w (l ++ [n]) [n] (sm_right (right_take f1))
      rw [giveL, right_take f1, if_pos rfl, if_pos rfl, if_pos rfl, f3] at g1
      have t2 := take_ok (min (w + 1) 16) l n hsm
      rw [f4, f5, if_pos rfl] at t2
      refine ⟨_, g1, ?_⟩
      refine ⟨_, by rw [show min (IntKind.i64.wrap (w + 1)) 16 = min (w + 1) 16 by rw [wrap64 (by omega) (by omega)]]; exact t2, ?_⟩
      refine ⟨_, fun _ => same_ok w l w l, ?_⟩
      refine ⟨_, fun _ => ints_ok (l ++ [n]) (l ++ [n]), ?_⟩
      refine ⟨_, fun _ => left_ok w (l ++ [n]), ?_⟩
      refine ⟨_, fun _ => left_ok w l, ?_⟩
      refine ⟨rfl, ?_⟩
      refine ⟨⟨L.le_of_eq ?_, trivial⟩, trivial, rfl, rfl⟩
      have : IntKind.i64.wrap (left w l - 1) = left w l - 1 := by rw [left_right hR, wrap64 (by omega) (by omega)]
      simp [f6, this]
      omega

theorem keeps_keeps (l a b : List Int) : keeps (keeps l a) b = keeps l (a ++ b) := by
  simp only [keeps, List.filter_filter]
  congr 1
  funext n
  by_cases h1 : n ∈ a <;> by_cases h2 : n ∈ b <;> simp [h1, h2]

theorem gives_loop (back : List Int) (k : Nat) (hk : k < back.length) : (back.take (k + 1)).map (fun x => IntKind.i64.wrap (1 + pick x 30)) = (back.take k).map (fun x => IntKind.i64.wrap (1 + pick x 30)) ++ [IntKind.i64.wrap (1 + pick back[k] 30)] := by
  rw [List.take_succ_eq_append_getElem hk, List.map_append]; rfl
theorem Il_take (l : List Int) (j : Nat) : (Il l).take j = Il (l.take j) := by simp [Il]
theorem Il_drop (l : List Int) (j : Nat) : (Il l).drop j = Il (l.drop j) := by simp [Il]

set_option maxRecDepth 100000 in
theorem gives_ok (window : Int) (raw back : List Int) (at' : Int) (hw : In64 window) (hr : ∀ x ∈ raw, In64 x) (hbk : ∀ x ∈ back, In64 x) (hat : In64 at') : M 5 [.int window, Ds raw, Ds back, .int at'] (.bool true) := by
  refine go5 rfl rfl fun hb => ?_
  have hlen : back.length ≤ 9223372036854775807 := by have := (hb.1 2 _ rfl).1; simpa [Il_length] using this
  obtain ⟨w, ew⟩ : ∃ w, w = crW window := ⟨_, rfl⟩
  obtain ⟨l, el⟩ : ∃ l, l = crL (crW window) raw := ⟨_, rfl⟩
  have hR : right w l = true := by rw [ew, el]; exact crL_right window raw
  have hW : 1 ≤ w ∧ w ≤ 16 := by rw [ew]; exact crW_range window
  have hsm := sm_right hR
  have cr := credit_ok window raw hw hr
  rw [← el, ← ew] at cr
  refine ⟨_, awake_ok, ?_⟩
  refine ⟨_, cr, ?_⟩
  refine ⟨Nat, fun k => ⟨[(2, Ds back), (3, .int at'), (9, .bool true), (10, .ref 999998 0), (11, .own 999001 1 (Il ((back.take k).map fun x => IntKind.i64.wrap (1 + pick x 30)))), (12, .int k)],
    ⟨[(999998, .cells [.int w, .own 999000 1 (Il l)])], [999000, 999001], 900000, 0⟩⟩, fun k => k ≤ back.length ∧ k ≤ 30, fun k => back.length - k, 0, ⟨Nat.zero_le _, Nat.zero_le _⟩, ?_, ?_⟩
  · exact ⟨⟨L.le_refl _, L.le_refl _, L.le_refl _, ⟨rfl, rfl⟩, rfl, L.le_refl _, trivial⟩, ⟨⟨L.le_refl _, ⟨rfl, L.le_refl _⟩, trivial⟩, trivial⟩, rfl, rfl⟩
  · rintro k ⟨hk, hk30⟩ _
    refine ⟨fun h => ?_, fun h => ?_⟩
    · have hlt : k < back.length ∧ k < 30 := by
        rw [Il_length] at h
        by_cases h1 : (k : Int) < back.length <;> simp [h1] at h
        omega
      refine ⟨[.int back[k]], ⟨k, rfl, by simp [Il_get, hlt.1]⟩, ?_⟩
      refine ⟨_, pick_ok back[k] 30 (hbk _ (List.getElem_mem hlt.1)) (by omega), ?_⟩
      refine ⟨?_, ?_⟩
      · show ((Il _).length + 1) * 8 ≤ _
        rw [Il_length, List.length_map, List.length_take]; omega
      · refine ⟨k + 1, ⟨hlt.1, hlt.2⟩, ?_, ?_⟩
        · show back.length - (k + 1) < back.length - k
          omega
        · refine ⟨⟨L.le_refl _, L.le_refl _, L.le_refl _, ⟨rfl, rfl⟩, ⟨rfl, L.le_of_eq ?_⟩, L.le_of_eq (by rw [wrap64 (by omega) (by omega)]; simp), trivial⟩, ⟨⟨L.le_refl _, ⟨rfl, L.le_refl _⟩, trivial⟩, trivial⟩, rfl, rfl⟩
          rw [gives_loop back k hlt.1]; simp [Il, D.cells]
    · generalize hm : (back.take k).map (fun x => IntKind.i64.wrap (1 + pick x 30)) = m
      have hml : m.length ≤ 30 := by rw [← hm]; simp; omega
      have hp := pick_range (c := at') (n := IntKind.i64.wrap ((Il m).length + 1)) (by rw [Il_length, wrap64 (by omega) (by omega)]; omega)
      have hn : IntKind.i64.wrap ((Il m).length + 1) = m.length + 1 := by rw [Il_length, wrap64 (by omega) (by omega)]
      refine ⟨_, pick_ok at' (IntKind.i64.wrap ((Il m).length + 1)) hat (by rw [hn]; omega), ?_⟩
      generalize pick at' (IntKind.i64.wrap ((Il m).length + 1)) = p at *
      rw [hn] at hp
      obtain ⟨j, rfl⟩ : ∃ j : Nat, p = j := ⟨p.toNat, by omega⟩
      have hj : j ≤ m.length := by omega
      have g1 := give_ok w l (m.take j) hsm
      have r1 := right_keeps (back := m.take j) hR
      rw [giveL, hR, if_pos rfl, if_pos rfl, if_pos rfl] at g1
      have g2 := give_ok w (keeps l (m.take j)) (m.drop j) (sm_right r1)
      rw [giveL, r1, if_pos rfl, if_pos rfl, if_pos rfl, keeps_keeps, List.take_append_drop] at g2
      have g3 := give_ok w l m hsm
      rw [giveL, hR, if_pos rfl, if_pos rfl, if_pos rfl] at g3
      have k1 : (keeps l (m.take j)).length ≤ l.length := List.length_filter_le _ _
      have k2 : (keeps l m).length ≤ l.length := List.length_filter_le _ _
      have hll := (right_bounds hR).2.2
      refine ⟨j, ⟨rfl, by rw [Il_length]; exact hj⟩, ?_⟩
      refine ⟨_, by rw [Il_take]; exact g1, ?_⟩
      refine ⟨rfl, j, ⟨rfl, by rw [Il_length]; exact hj⟩, ?_⟩
      refine ⟨_, by rw [Il_drop]; exact g2, ?_⟩
      refine ⟨rfl, _, g3, ?_⟩
      refine ⟨_, fun _ => same_ok w (keeps l m) w (keeps l m), ?_⟩
      refine ⟨_, fun _ => left_ok w (keeps l m), ?_⟩
      refine ⟨_, fun _ => left_ok w l, ?_⟩
      refine ⟨rfl, ⟨L.le_of_eq ?_, trivial⟩, trivial, rfl, rfl⟩
      rw [left_right hR, left_right (right_keeps hR)]
      have e1 : IntKind.i64.wrap (w - (l.length : Int) + ((l.length : Int) - ((keeps l m).length : Int))) = w - ((keeps l m).length : Int) := by rw [wrap64 (by omega) (by omega)]; omega
      have e2 : IntKind.i64.wrap ((l.length : Int) - ((keeps l (m.take j)).length : Int) + (((keeps l (m.take j)).length : Int) - ((keeps l m).length : Int))) = (l.length : Int) - ((keeps l m).length : Int) := by rw [wrap64 (by omega) (by omega)]; omega
      simp [e1, e2]
end Go.Proofs.Ytdaigbpaggnijaa
