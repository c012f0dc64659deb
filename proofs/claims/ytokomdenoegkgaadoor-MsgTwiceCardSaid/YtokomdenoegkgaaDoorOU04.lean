/-
  Layer 4: the theory of sorting.
-/
import Derived.Test.YtokomdenoegkgaaDoorOO04
set_option linter.unusedVariables false
set_option linter.unusedSimpArgs false
namespace Go.Proofs.YtokomdenoegkgaaDoor
open Go Go.Proofs.YtokomdenoegkgaaDoor.Abs

theorem key_inj {e f : Bool} {n m : Int} (h1 : within n e = true) (h2 : within m f = true) (h : key e n = key f m) : e = f ∧ n = m := by
  cases e <;> cases f <;> simp [within, lim, key] at h1 h2 h ⊢ <;> omega
theorem idLess_iff {e f : Bool} {n m : Int} : idLess e n f m = true ↔ within n e = true ∧ within m f = true ∧ key e n < key f m := by
  simp [idLess]
theorem less_irrefl (m : Msg) : m.less m = false := by simp [Msg.less]
theorem less_same {x y : Msg} (h1 : x.ext = y.ext) (h2 : x.n = y.n) : x.less y = true ↔ (x.sender < y.sender ∨ (x.sender = y.sender ∧ x.number < y.number)) := by
  rw [Msg.less, if_pos ⟨h1, h2⟩]
  split <;> simp <;> omega
theorem less_other {x y : Msg} (h : ¬ (x.ext = y.ext ∧ x.n = y.n)) : x.less y = true ↔ within x.n x.ext = true ∧ within y.n y.ext = true ∧ key x.ext x.n < key y.ext y.n := by
  rw [Msg.less, if_neg h, idLess_iff]
theorem less_trans {a b c : Msg} (h1 : a.less b = true) (h2 : b.less c = true) : a.less c = true := by
  by_cases e1 : a.ext = b.ext ∧ a.n = b.n
  · by_cases e2 : b.ext = c.ext ∧ b.n = c.n
    · rw [less_same e1.1 e1.2] at h1
      rw [less_same e2.1 e2.2] at h2
      rw [less_same (e1.1.trans e2.1) (e1.2.trans e2.2)]
      omega
    · rw [less_other e2] at h2
      rw [less_other (by rw [e1.1, e1.2]; exact e2), e1.1, e1.2]
      exact h2
  · rw [less_other e1] at h1
    by_cases e2 : b.ext = c.ext ∧ b.n = c.n
    · rw [less_other (by rw [← e2.1, ← e2.2]; exact e1), ← e2.1, ← e2.2]
      exact h1
    · rw [less_other e2] at h2
      rw [less_other]
      · exact ⟨h1.1, h2.2.1, by omega⟩
      · rintro ⟨x1, x2⟩
        rw [x1, x2] at h1
        omega
theorem less_total {a b : Msg} (ha : within a.n a.ext = true) (hb : within b.n b.ext = true) (hn : a.number ≠ b.number) : a.less b = true ∨ b.less a = true := by
  unfold Msg.less
  by_cases e1 : a.ext = b.ext ∧ a.n = b.n
  · rw [if_pos e1, if_pos (show b.ext = a.ext ∧ b.n = a.n from ⟨e1.1.symm, e1.2.symm⟩)]
    split <;> split <;> simp <;> omega
  · rw [if_neg e1, if_neg (fun h => e1 ⟨h.1.symm, h.2.symm⟩)]
    rw [idLess_iff, idLess_iff]
    by_cases h : key a.ext a.n = key b.ext b.n
    · exact absurd (key_inj ha hb h) e1
    · by_cases h2 : key a.ext a.n < key b.ext b.n
      · exact .inl ⟨ha, hb, h2⟩
      · exact .inr ⟨hb, ha, by omega⟩
theorem less_asymm {a b : Msg} (h : a.less b = true) : b.less a = false := by
  cases hb : b.less a with
  | false => rfl
  | true => rw [← less_irrefl a, less_trans h hb]
abbrev Srt (l : List Msg) : Prop := l.Pairwise fun a b => a.less b = true
abbrev nums (l : List Msg) : List Int := l.map Msg.number
theorem srt_perm {l k : List Msg} (h1 : Srt l) (h2 : Srt k) (hp : l.Perm k) : l = k :=
  hp.eq_of_pairwise (fun a b _ _ x y => by rw [less_asymm x] at y; cases y) h1 h2
theorem ins_perm (l : List Msg) (m : Msg) (k : Nat) : (ins' l [m] k).Perm (m :: l) := by
  have : l.take k ++ l.drop k = l := List.take_append_drop _ _
  rw [ins']
  simp only [List.append_assoc, List.cons_append, List.nil_append]
  exact List.perm_middle.trans (by rw [this])
theorem ins_sorted {l : List Msg} {m : Msg} {k : Nat} (hs : Srt l) (h1 : ∀ j (hj : j < l.length), j < k → l[j].less m = true) (h2 : ∀ j (hj : j < l.length), k ≤ j → m.less l[j] = true) : Srt (ins' l [m] k) := by
  have e : l.take k ++ l.drop k = l := List.take_append_drop _ _
  have hs2 := hs
  rw [← e] at hs2
  obtain ⟨p1, p2, p3⟩ := List.pairwise_append.1 hs2
  rw [ins']
  simp only [List.append_assoc, List.cons_append, List.nil_append]
  refine List.pairwise_append.2 ⟨p1, List.pairwise_cons.2 ⟨fun y hy => ?_, p2⟩, fun x hx y hy => ?_⟩
  · obtain ⟨i, hi, rfl⟩ := List.getElem_of_mem hy
    simp only [List.length_drop] at hi
    rw [List.getElem_drop]
    exact h2 _ (by omega) (by omega)
  · rcases List.mem_cons.1 hy with rfl | hy
    · obtain ⟨i, hi, rfl⟩ := List.getElem_of_mem hx
      have hi' := hi
      simp only [List.length_take] at hi'
      rw [List.getElem_take]
      exact h1 i (by omega) (by omega)
    · exact p3 x hx y hy
theorem scan_spec (m : Msg) (out : List Msg) : ∀ n, n ≤ out.length → (∀ j (hj : j < out.length), scan m out n ≤ j → j < n → m.less out[j] = true) ∧ (0 < scan m out n → ∀ (h : scan m out n - 1 < out.length), m.less out[scan m out n - 1] = false)
  | 0, _ => ⟨fun j hj h1 h2 => by omega, fun h => by simp [scan] at h⟩
  | n + 1, hn => by
    have hlt : n < out.length := by omega
    obtain ⟨a, b⟩ := scan_spec m out n (by omega)
    have e : scan m out (n + 1) = if m.less out[n] = true then scan m out n else n + 1 := by
      rw [scan, List.getElem?_eq_getElem hlt]
    by_cases hl : m.less out[n] = true
    · rw [if_pos hl] at e
      rw [e]
      refine ⟨fun j hj h1 h2 => ?_, b⟩
      rcases Nat.lt_or_eq_of_le (Nat.lt_succ_iff.1 h2) with h3 | h3
      · exact a j hj h1 h3
      · subst h3; exact hl
    · rw [if_neg hl] at e
      rw [e]
      exact ⟨fun j hj h1 h2 => by omega, fun _ _ => by simpa using hl⟩
theorem sortStep_sorted {out : List Msg} {m : Msg} (hs : Srt out) (hm : within m.n m.ext = true) (hl : ∀ x ∈ out, within x.n x.ext = true ∧ x.number ≠ m.number) : Srt (sortStep out m) ∧ (sortStep out m).Perm (m :: out) := by
  rw [sortStep, if_pos hm]
  refine ⟨ins_sorted hs (fun j hj h => ?_) (fun j hj h => (scan_spec m out _ (Nat.le_refl _)).1 j hj h hj), ins_perm _ _ _⟩
  have hk := scan_le m out out.length
  have h0 := (scan_spec m out _ (Nat.le_refl _)).2 (by omega) (by omega)
  have ht : (out[scan m out out.length - 1]'(by omega)).less m = true := by
    rcases less_total (hl _ (List.getElem_mem (show scan m out out.length - 1 < out.length by omega))).1 hm (hl _ (List.getElem_mem (show scan m out out.length - 1 < out.length by omega))).2 with h | h
    · exact h
    · rw [h0] at h; cases h
  by_cases e : j = scan m out out.length - 1
  · subst e; exact ht
  · exact less_trans (List.pairwise_iff_getElem.1 hs j _ hj (by omega) (by omega)) ht
theorem sort_fold : ∀ (l acc : List Msg), Srt acc → (∀ x ∈ acc ++ l, within x.n x.ext = true) → (nums (acc ++ l)).Nodup → Srt (l.foldl sortStep acc) ∧ (l.foldl sortStep acc).Perm (acc ++ l)
  | [], acc, h, _, _ => ⟨h, by simp⟩
  | m :: l, acc, h, hw, nd => by
    have nd2 : (nums (m :: (acc ++ l))).Nodup := ((List.perm_middle.map Msg.number).nodup_iff).1 nd
    obtain ⟨n1, n2⟩ := List.nodup_cons.1 nd2
    obtain ⟨a, b⟩ := sortStep_sorted (m := m) h (hw m (by simp)) fun x hx => ⟨hw x (by simp [hx]), fun e => n1 (List.mem_map.2 ⟨x, by simp [hx], e⟩)⟩
    have hp : (sortStep acc m ++ l).Perm (acc ++ m :: l) := (b.append_right l).trans (by simpa using List.perm_middle.symm)
    obtain ⟨c, d⟩ := sort_fold l (sortStep acc m) a (fun x hx => hw x (hp.mem_iff.1 hx)) ((hp.map Msg.number).nodup_iff.2 nd)
    exact ⟨c, d.trans hp⟩
end Go.Proofs.YtokomdenoegkgaaDoor
