/-
  Layer 13: the plain law of queues.
-/
import Derived.Test.YthcbdpghfefnlaaDoorOZ13
set_option linter.unusedVariables false
set_option linter.unusedSimpArgs false
namespace Go.Proofs.YthcbdpghfefnlaaDoor
open Go Go.Proofs.YthcbdpghfefnlaaDoor.Abs

theorem key_inj {e f : Bool} {n m : Int} (h1 : within n e = true) (h2 : within m f = true) (h : key e n = key f m) : e = f ∧ n = m := by
  cases e <;> cases f <;> simp [within, lim, key] at h1 h2 h ⊢ <;> omega
theorem idLess_iff {e f : Bool} {n m : Int} : idLess e n f m = true ↔ within n e = true ∧ within m f = true ∧ key e n < key f m := by
  simp [idLess]
theorem less_irrefl (m : Msg) : m.less m = false := by simp [Msg.less]
theorem less_same {x y : Msg} (h1 : x.ext = y.ext) (h2 : x.n = y.n) : x.less y = true ↔ (x.sender < y.sender ∨ (x.sender = y.sender ∧ x.number < y.number)) := by
  rw [Msg.less, if_pos ⟨h1, h2⟩]
  split <;> simp <;> omega
theorem less_other {x y : Msg} (h : ¬ (x.ext = y.ext ∧ x.n = y.n)) : x.less y = true ↔ within x.n x.ext = true ∧ within y.n y.ext = true ∧ key x.ext x.n < key y.ext y.n := by
  rw [Msg.less, if_neg h, idLess_iff]
theorem less_trans {a b c : Msg} (h1 : a.less b = true) (h2 : b.less c = true) : a.less c = true := by
  by_cases e1 : a.ext = b.ext ∧ a.n = b.n
  · by_cases e2 : b.ext = c.ext ∧ b.n = c.n
    · rw [less_same e1.1 e1.2] at h1
      rw [less_same e2.1 e2.2] at h2
      rw [less_same (e1.1.trans e2.1) (e1.2.trans e2.2)]
      omega
    · rw [less_other e2] at h2
      rw [less_other (by rw [e1.1, e1.2]; exact e2), e1.1, e1.2]
      exact h2
  · rw [less_other e1] at h1
    by_cases e2 : b.ext = c.ext ∧ b.n = c.n
    · rw [less_other (by rw [← e2.1, ← e2.2]; exact e1), ← e2.1, ← e2.2]
      exact h1
    · rw [less_other e2] at h2
      rw [less_other]
      · exact ⟨h1.1, h2.2.1, by omega⟩
      · rintro ⟨x1, x2⟩
        rw [x1, x2] at h1
        omega
theorem less_total {a b : Msg} (ha : within a.n a.ext = true) (hb : within b.n b.ext = true) (hn : a.number ≠ b.number) : a.less b = true ∨ b.less a = true := by
  unfold Msg.less
  by_cases e1 : a.ext = b.ext ∧ a.n = b.n
  · rw [if_pos e1, if_pos (show b.ext = a.ext ∧ b.n = a.n from ⟨e1.1.symm, e1.2.symm⟩)]
    split <;> split <;> simp <;> omega
  · rw [if_neg e1, if_neg (fun h => e1 ⟨h.1.symm, h.2.symm⟩)]
    rw [idLess_iff, idLess_iff]
    by_cases h : key a.ext a.n = key b.ext b.n
    · exact absurd (key_inj ha hb h) e1
    · by_cases h2 : key a.ext a.n < key b.ext b.n
      · exact .inl ⟨ha, hb, h2⟩
      · exact .inr ⟨hb, ha, by omega⟩
theorem right_id {m : Msg} (h : m.right = true) : within m.n m.ext = true := by
  simp [Msg.right] at h
  exact h.1
theorem less_asymm {a b : Msg} (h : a.less b = true) : b.less a = false := by
  cases hb : b.less a with
  | false => rfl
  | true => rw [← less_irrefl a, less_trans h hb]

abbrev Srt (l : List Msg) : Prop := l.Pairwise fun a b => a.less b = true
abbrev nums (l : List Msg) : List Int := l.map Msg.number
def insQ (l : List Msg) (m : Msg) : List Msg := ins' l [m] (atQ l m)

theorem findN_cases (p : Msg → Bool) (l : List Msg) : (findN p l = -1 ∧ ∀ x ∈ l, p x = false) ∨ ∃ k, ∃ hk : k < l.length, findN p l = (k : Int) ∧ p l[k] = true ∧ ∀ j (hj : j < k), p (l[j]'(by omega)) = false := by
  rw [findN]
  cases h : l.findIdx? p with
  | none => exact .inl ⟨rfl, fun x hx => by simpa using List.findIdx?_eq_none_iff.1 h x hx⟩
  | some k =>
    obtain ⟨hk, h1, h2⟩ := List.findIdx?_eq_some_iff_getElem.1 h
    exact .inr ⟨k, hk, rfl, h1, fun j hj => by simpa using h2 j hj⟩

theorem insQ_perm (l : List Msg) (m : Msg) : (insQ l m).Perm (m :: l) := by
  have : l.take (atQ l m) ++ l.drop (atQ l m) = l := List.take_append_drop _ _
  rw [insQ, ins']
  simp only [List.append_assoc, List.cons_append, List.nil_append]
  exact List.perm_middle.trans (by rw [this])
theorem insQ_sorted {l : List Msg} {m : Msg} (hs : Srt l) (hm : within m.n m.ext = true) (hl : ∀ x ∈ l, within x.n x.ext = true ∧ x.number ≠ m.number) : Srt (insQ l m) := by
  have hat : (∀ j (hj : j < l.length), j < atQ l m → m.less l[j] = false) ∧ ∀ j (hj : j < l.length), atQ l m ≤ j → m.less l[j] = true := by
    rw [atQ]
    rcases findN_cases (fun x => m.less x) l with ⟨h1, h2⟩ | ⟨k, hk, h1, h2, h3⟩
    · rw [h1, if_pos (by omega)]
      exact ⟨fun j hj _ => h2 _ (List.getElem_mem hj), fun j hj h => by omega⟩
    · rw [h1, if_neg (by omega), Int.toNat_natCast]
      refine ⟨fun j hj h => h3 j h, fun j hj h => ?_⟩
      rcases Nat.lt_or_eq_of_le h with h | h
      · exact less_trans h2 (List.pairwise_iff_getElem.1 hs k j hk hj h)
      · subst h; exact h2
  have e : l.take (atQ l m) ++ l.drop (atQ l m) = l := List.take_append_drop _ _
  have hs2 := hs
  rw [← e] at hs2
  obtain ⟨p1, p2, p3⟩ := List.pairwise_append.1 hs2
  rw [insQ, ins']
  simp only [List.append_assoc, List.cons_append, List.nil_append]
  refine List.pairwise_append.2 ⟨p1, List.pairwise_cons.2 ⟨fun y hy => ?_, p2⟩, fun x hx y hy => ?_⟩
  · obtain ⟨i, hi, rfl⟩ := List.getElem_of_mem hy
    simp only [List.length_drop] at hi
    rw [List.getElem_drop]
    exact hat.2 _ (by omega) (by omega)
  · rcases List.mem_cons.1 hy with rfl | hy
    · obtain ⟨i, hi, rfl⟩ := List.getElem_of_mem hx
      have hi' := hi
      simp only [List.length_take] at hi'
      rw [List.getElem_take]
      have hf := hat.1 i (by omega) (by omega)
      rcases less_total (hl _ (List.getElem_mem (show i < l.length by omega))).1 hm (hl _ (List.getElem_mem (show i < l.length by omega))).2 with h | h
      · exact h
      · rw [hf] at h; cases h
    · exact p3 x hx y hy

structure Good (q : Que) : Prop where
  may : mayB q.lim = true
  len : (q.msgs.length : Int) ≤ q.lim
  right : ∀ m ∈ q.msgs, m.right = true
  srt : Srt q.msgs
  nd : (nums q.msgs).Nodup

theorem numsI_spec (l : List Msg) : ∀ acc : List Int, (acc ++ nums l).Nodup → (l.foldl (fun s m => insI s m.number) acc).length = acc.length + l.length := by
  induction l with
  | nil => intro acc h; simp
  | cons m l ih =>
    intro acc h
    have hm : m.number ∉ acc := by
      intro hm
      have := (List.nodup_append.1 h).2.2 m.number hm m.number (by simp [nums])
      exact this rfl
    rw [List.foldl_cons, insI, if_neg hm, ih]
    · simp; omega
    · simpa [nums] using h
theorem Good.isRight {q : Que} (h : Good q) : q.right = true := by
  have h1 := numsI_spec q.msgs [] (by simpa using h.nd)
  have h2 : (List.range q.msgs.length).all (okAt q.msgs) = true := by
    rw [List.all_eq_true]
    intro k hk
    have hk : k < q.msgs.length := by simpa using hk
    have e : q.msgs.getD k dmsg = q.msgs[k] := by simp [List.getD_eq_getElem?_getD, hk]
    rw [okAt, e, h.right _ (List.getElem_mem hk)]
    by_cases h0 : k = 0
    · simp [h0]
    · have e2 : q.msgs.getD (k - 1) dmsg = q.msgs[k - 1] := by simp [List.getD_eq_getElem?_getD, show k - 1 < q.msgs.length by omega]
      rw [e2, List.pairwise_iff_getElem.1 h.srt (k - 1) k (by omega) hk (by omega)]
      simp
  rw [Que.right, h.may, h2, decide_eq_true h.len, decide_eq_true (by rw [numsI, h1]; simp)]
  rfl
theorem Good.new {n : Int} (h : mayB n = true) : Good ⟨n, []⟩ := ⟨h, by simp [mayB] at h; simp; omega, by simp, by simp [Srt], by simp [nums]⟩
theorem Good.put {q : Que} {m : Msg} (h : Good q) (hm : m.right = true) (hn : m.number ∉ nums q.msgs) (hl : (q.msgs.length : Int) < q.lim) : putR q m = (⟨q.lim, insQ q.msgs m⟩, 0) ∧ Good ⟨q.lim, insQ q.msgs m⟩ := by
  have hp := insQ_perm q.msgs m
  refine ⟨?_, h.may, ?_, ?_, ?_, ?_⟩
  · rw [putR, if_neg (by simp [h.isRight, hm]), if_neg, if_neg (by omega)]
    · rfl
    · rcases findN_cases (fun x => x.number == m.number) q.msgs with ⟨h1, h2⟩ | ⟨k, hk, h1, h2, h3⟩
      · omega
      · exact absurd (List.mem_map.2 ⟨_, List.getElem_mem hk, by simpa using h2⟩) hn
  · have := hp.length_eq
    simp only [List.length_cons] at this
    simp only
    omega
  · intro x hx
    rcases List.mem_cons.1 (hp.mem_iff.1 hx) with rfl | hx
    · exact hm
    · exact h.right x hx
  · exact insQ_sorted h.srt (right_id hm) fun x hx => ⟨right_id (h.right x hx), fun e => hn (List.mem_map.2 ⟨x, hx, e⟩)⟩
  · have : (nums (insQ q.msgs m)).Perm (nums (m :: q.msgs)) := hp.map _
    rw [this.nodup_iff]
    exact List.nodup_cons.2 ⟨hn, h.nd⟩
theorem srt_perm {l k : List Msg} (h1 : Srt l) (h2 : Srt k) (hp : l.Perm k) : l = k :=
  hp.eq_of_pairwise (fun a b _ _ x y => by rw [less_asymm x] at y; cases y) h1 h2
theorem Good.head {q : Que} {x : Msg} {l : List Msg} (h : Good q) (hq : q.msgs = x :: l) : takenT q (fun _ => true) = (⟨q.lim, l⟩, x, 0) ∧ Good ⟨q.lim, l⟩ := by
  obtain ⟨lim, ms⟩ := q
  subst hq
  refine ⟨?_, h.may, ?_, ?_, ?_, ?_⟩
  · have e : findN (fun _ => true) (x :: l) = 0 := by simp [findN, List.findIdx?_cons]
    rw [takenT, if_neg (by simp [h.isRight]), if_neg (by simp only; omega)]
    simp only [e]
    rfl
  · have := h.len; simp at this ⊢; omega
  · exact fun m hm => h.right m (List.mem_cons_of_mem _ hm)
  · exact (List.pairwise_cons.1 h.srt).2
  · exact (List.nodup_cons.1 h.nd).2
theorem Good.none {q : Que} (h : Good q) (hq : q.msgs = []) (p : Msg → Bool) : takenT q p = (q, dmsg, 41) := by
  rw [takenT, if_neg (by simp [h.isRight]), if_pos (by rw [hq]; simp [findN])]
theorem Good.away {q : Que} (h : Good q) {n : Int} (hn : n ∉ nums q.msgs) : takenT q (fun m => m.number == n) = (q, dmsg, 41) := by
  rw [takenT, if_neg (by simp [h.isRight]), if_pos]
  rcases findN_cases (fun x => x.number == n) q.msgs with ⟨h1, h2⟩ | ⟨k, hk, h1, h2, h3⟩
  · omega
  · exact absurd (List.mem_map.2 ⟨_, List.getElem_mem hk, by simpa using h2⟩) hn
theorem Good.sub {q : Que} (h : Good q) {l : List Msg} (hl : l.Sublist q.msgs) : Good ⟨q.lim, l⟩ :=
  ⟨h.may, by have := hl.length_le; have := h.len; simp only; omega, fun m hm => h.right m (hl.subset hm), h.srt.sublist hl, h.nd.sublist (hl.map _)⟩
theorem Good.one {q : Que} (h : Good q) {n : Int} (hn : n ∈ nums q.msgs) : ∃ x, x ∈ q.msgs ∧ x.number = n ∧ takenT q (fun m => m.number == n) = (⟨q.lim, q.msgs.filter fun m => !(m.number == n)⟩, x, 0) := by
  rcases findN_cases (fun x => x.number == n) q.msgs with ⟨h1, h2⟩ | ⟨k, hk, h1, h2, h3⟩
  · obtain ⟨x, hx, rfl⟩ := List.mem_map.1 hn
    have := h2 x hx
    simp at this
  · have h2' : q.msgs[k].number = n := by simpa using h2
    refine ⟨q.msgs[k], List.getElem_mem hk, h2', ?_⟩
    rw [takenT, if_neg (by simp [h.isRight]), if_neg (by omega), h1, Int.toNat_natCast]
    have e : q.msgs.getD k dmsg = q.msgs[k] := by simp [List.getD_eq_getElem?_getD, hk]
    rw [e]
    have ed : del q.msgs k = q.msgs.filter fun m => !(m.number == n) := by
      have e1 : q.msgs = q.msgs.take k ++ q.msgs[k] :: q.msgs.drop (k + 1) := by rw [List.getElem_cons_drop, List.take_append_drop]
      have nd := h.nd
      rw [e1] at nd
      simp only [nums, List.map_append, List.map_cons, List.nodup_append, List.nodup_cons] at nd
      obtain ⟨n1, ⟨n2, n3⟩, n4⟩ := nd
      conv => rhs; rw [e1]
      rw [List.filter_append, List.filter_cons, if_neg (by simp [h2']), del]
      congr 1
      · refine (List.filter_eq_self.2 fun x hx => ?_).symm
        obtain ⟨i, hi, rfl⟩ := List.getElem_of_mem hx
        simp only [List.length_take] at hi
        rw [List.getElem_take]
        have := h3 i (by omega)
        simpa using this
      · refine (List.filter_eq_self.2 fun x hx => ?_).symm
        have : x.number ≠ n := fun e => n2 (by rw [h2', ← e]; exact List.mem_map.2 ⟨x, hx, rfl⟩)
        simpa using this
    rw [ed]
theorem Good.one' {q : Que} (h : Good q) {n : Int} : Good ⟨q.lim, q.msgs.filter fun m => !(m.number == n)⟩ := h.sub List.filter_sublist

theorem mayOk {c : Bool} {n : Int} (h0 : 0 ≤ n) (h : n < cond c 536870912 2048) : within n c = true := by
  cases c
  · replace h : n < 2048 := h
    rw [within, decide_eq_true h0, decide_eq_true (show n ≤ lim false by show n ≤ 2047; omega)]; rfl
  · replace h : n < 536870912 := h
    rw [within, decide_eq_true h0, decide_eq_true (show n ≤ lim true by show n ≤ 536870911; omega)]; rfl
theorem cpos (c : Bool) : 0 < (cond c 536870912 2048 : Int) := by cases c <;> simp
theorem numd_right {r : R6} (hr : r.ok) {n : Int} (h1 : 1 ≤ n) (h2 : n ≤ 65535) : (numd r n).right = true := by
  have p2 := pick_range (c := r.c) (n := 16) (by omega)
  have p3 := pick_range (c := r.d) (n := 65535) (by omega)
  have p4 := pick_range (c := r.e) (n := 65535) (by omega)
  have hw : within (numd r n).n (numd r n).ext = true := by
    show within (idN r.a r.b) (idE r.b) = true
    rw [idN, idE]
    split
    · have := pick_range (c := r.a) (n := cond (pick r.b 2 == 0) 536870912 2048) (cpos _)
      exact mayOk this.1 this.2
    · have := pick_range (c := pick r.a 5) (n := cond (pick r.b 3 == 0) 536870912 2048) (cpos _)
      exact mayOk this.1 this.2
  rw [Msg.right, hw]
  have e : ((numd r n).data.size : Int) ≤ 8 := by show (((⟨#[100]⟩ : ByteArray).extract 0 (min (⟨#[100]⟩ : ByteArray).size 8)).size : Int) ≤ 8; decide
  have a1 : (numd r n).sender = pick r.c 16 := rfl
  have a2 : (numd r n).inc = 1 + pick r.d 65535 := rfl
  have a3 : (numd r n).seq = 1 + pick r.e 65535 := rfl
  have a4 : (numd r n).number = n := rfl
  rw [a1, a2, a3, a4]
  simp [small, p2, e, h1, h2]
  omega
end Go.Proofs.YthcbdpghfefnlaaDoor
